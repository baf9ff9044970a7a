import Derived.Test.YtpechfcbnoggfaaGreatDoorCore
import Derived.Laws.AppendOwn
import GoSem.ClaimData
open Array renaming getElem?_eq_some_iff->E
open List renaming getElem?_append_right->F,getElem?_append_left->I
open Nat renaming lt_of_lt_of_le->J,succ_mul->N
namespace Go.NB
def cell(H:ae)(b o:Nat):Option Value:=
 match H[b]? with
 |some (.cells c _ _)=>c[o]?
 |_=>none
theorem dG{w:World}{H:ae}(a:w.heap=H)(b o:Nat):w.cell? ⟨b,o,none⟩=cell H b o:=by
 subst a;unfold World.cell? cell;simp only[Option.isSome_none];rfl
theorem sE{H:ae}{b o:Nat}{v:Value}(h:cell H b o=some v):b<H.size:=by
 unfold cell at h;by_cases hb:b<H.size
 ·exact hb
 ·rw[Array.getElem?_eq_none (by omega)]at h;cases h
theorem gM{M:List Nat}{H H':ae}{b o:Nat}{v:Value}(h:cell H b o=some v)(k:au M H H')(hb:b∉M):cell H' b o=some v:=by
 have:=k.2 b (sE h) hb;unfold cell at*;rw[this];exact h
def Mv(H:ae)(M M':List Nat):Prop:=∀k,k∈M'->k∈M\/H.size<=k
theorem Mv.refl(H:ae)(M:List Nat):Mv H M M:=λ_ h=>.inl h
theorem Mv.sub{H:ae}{M M':List Nat}(h:∀k,k∈M'->k∈M):Mv H M M':=λk a=>.inl (h k a)
structure Ty(α:Type)where
 size:Nat
 agg:Bool
 R:ae->List Nat->List Value->α->Prop
 len:∀{H M cs x},R H M cs x->cs.length=size
 one:∀{H M cs x},R H M cs x->∀u∈cs,u.oneCell'=true
 tr:∀{H H' M M' cs x},R H M cs x->au M H H'->Mv H M M'->R H' M' cs x
 pos:0<size
 sc:agg=false->size=1
section
variable {α:Type} (T:Ty α)
def Ty.val(cs:List Value):Value:=bif T.agg then .agg cs.toArray else cs.headD undef
def Ty.V(H:ae)(M:List Nat)(v:Value)(x:α):Prop:=∃a,T.R H M a x/\v=T.val a
theorem Ty.Hs{T:Ty α}{H:ae}{M:List Nat}{cs:List Value}{x:α}(h:T.R H M cs x):(T.val cs).cells=cs.toArray:=by
 unfold Ty.val;cases b:T.agg with
 |true=>rfl
 |false=>
  have a:=T.len h;rw[T.sc b]at a;match cs,a with
  |[u],_=>
   have:=T.one h u (by simp);cases u<;>first|rfl|simp[Value.oneCell']at this
def At(H:ae)(M:List Nat)(b o:Nat)(x:α):Prop:=
 b<H.size/\b∉M/\∃a,T.R H M a x/\∀j u,a[j]? =some u->cell H b (o+j)=some u
theorem At.tr{T:Ty α}{H H':ae}{M M':List Nat}{b o:Nat}{x:α}(h:At T H M b o x)(k:au M H H')(m:Mv H M M'):At T H' M' b o x:=by
 obtain⟨hb,a,c,f,d⟩:=h;refine⟨J hb k.1,λg=>?_,c,T.tr f k m,λj u e=>gM (d j u e) k a⟩;rcases m b g with h1|h1
 ·exact a h1
 ·omega
def r9(H:ae)(M:List Nat)(v:Value)(x:α):Prop:=∃b o,v= .pointer (some ⟨b,o,none⟩)/\At T H M b o x
def Sl(H:ae)(M:List Nat)(v:Value)(xs:List α):Prop:=
 (∃p,v= .slice p 0 0/\xs=[])\/
 ∃b a cap,v= .slice (some ⟨b,a,none⟩) xs.length cap/\b<H.size/\b∉M/\xs.length<=cap/\cap<=maxLen/\xs.length<=9223372036854775807/\
  ∀i (h:i<xs.length),At T H M b (a+i*T.size) xs[i]
theorem Sl.tr{T:Ty α}{H H':ae}{M M':List Nat}{v:Value}{xs:List α}(h:Sl T H M v xs)(k:au M H H')(m:Mv H M M'):Sl T H' M' v xs:=by
 rcases h with h|⟨b,a,cap,e,hb,l,c,d,f,g⟩
 ·exact .inl h
 ·refine .inr ⟨b,a,cap,e,J hb k.1,λn=>?_,c,d,f,λi j=>(g i j).tr k m⟩;rcases m b n with h5|h5
  ·exact l h5
  ·omega
theorem Sl.at{T:Ty α}{H H':ae}{M:List Nat}{v:Value}{xs:List α}(h:Sl T H M v xs)(k:au [] H H'):Sl T H' M v xs:=h.tr k.nil (Mv.refl _ _)
theorem Sl.len{T:Ty α}{H:ae}{M:List Nat}{v:Value}{xs:List α}(h:Sl T H M v xs):xs.length<=9223372036854775807:=by
 rcases h with⟨_,_,rfl⟩|⟨b,c,cap,e,hb,i,d,f,a,g⟩
 ·simp
 ·exact a
inductive dR(H:ae)(M:List Nat):List Value->List α->Prop
 |nil:dR H M [] []
 |cons {c rest x xs}:T.R H M c x->dR H M rest xs->dR H M (c++rest) (x::xs)
theorem dR.tr{T:Ty α}{H H':ae}{M M':List Nat}(k:au M H H')(m:Mv H M M'){cs:List Value}{xs:List α}(h:dR T H M cs xs):dR T H' M' cs xs:=by
 induction h with
 |nil=>exact .nil
 |cons a _ ih=>exact .cons (T.tr a k m) ih
theorem dR.length{T:Ty α}{H:ae}{M:List Nat}{cs:List Value}{xs:List α}(h:dR T H M cs xs):cs.length=xs.length*T.size:=by
 induction h with
 |nil=>simp
 |cons a _ ih=>rw[List.length_append,T.len a,ih,List.length_cons,N,Nat.add_comm]
theorem dR.append{T:Ty α}{H:ae}{M:List Nat}{cs ds:List Value}{xs ys:List α}(h:dR T H M cs xs)(k:dR T H M ds ys):dR T H M (cs++ds) (xs++ys):=by
 induction h with
 |nil=>exact k
 |cons a _ ih=>rw[List.append_assoc,List.cons_append];exact .cons a ih
theorem dR.one{T:Ty α}{H:ae}{M:List Nat}{cs:List Value}{xs:List α}(h:dR T H M cs xs):∀u∈cs,u.oneCell'=true:=by
 induction h with
 |nil=>intro u a;cases a
 |cons b _ ih=>
  intro u a;rcases List.mem_append.1 a with h2|h2
  ·exact T.one b u h2
  ·exact ih u h2
theorem dR.single{T:Ty α}{H:ae}{M:List Nat}{cs:List Value}{x:α}(h:T.R H M cs x):dR T H M cs [x]:=by
 have:=dR.cons (T:=T) h .nil;rwa[List.append_nil]at this
theorem dR.get{T:Ty α}{H:ae}{M:List Nat}{cs:List Value}{xs:List α}(h:dR T H M cs xs):
  ∀i (hi:i<xs.length),∃c,T.R H M c xs[i]/\∀j u,c[j]? =some u->cs[i*T.size+j]? =some u:=by
 induction h with
 |nil=>intro i hi;simp at hi
 | @cons c rest x xs g _ ih=>
  intro i hi;match i with
  |0=>
   refine⟨c,g,λj u a=>?_⟩;rw[Nat.zero_mul,Nat.zero_add];obtain⟨f,e⟩:=List.getElem?_eq_some_iff.1 a;rw[I f,a]
  |i+1=>
   obtain⟨k,b,d⟩:=ih i (by simpa using hi);refine⟨k,by simpa using b,λj u a=>?_⟩;have l:=T.len g;have e:(i+1)*T.size+j=c.length+(i*T.size+j):=by rw[l,N];omega
   rw[e,F (by omega),Nat.add_sub_cancel_left];exact d j u a
theorem Sl.BA{T:Ty α}{H:ae}{M:List Nat}{b:Nat}:∀(xs:List α) (off:Nat),(∀i (h:i<xs.length),At T H M b (off+i*T.size) xs[i])->
  ∃css,dR T H M css xs/\∀j u,css[j]? =some u->cell H b (off+j)=some u
 |[],_,_=>⟨[],.nil,λj u h=>by simp at h⟩
 |x::xs,off,h=>by
  obtain⟨_,_,c,e,l⟩:=h 0 (by simp)
  obtain ⟨css, f, g⟩ := Sl.BA xs (off + T.size) (λi k=>by
   have:=h (i+1) (by simpa using k);rw[show off+(i+1)*T.size=off+T.size+i*T.size by rw[N];omega]at this;simpa using this)
  refine⟨c++css,.cons (by simpa using e) f,λj u a=>?_⟩;have m:=T.len e;by_cases d:j<c.length
  ·rw[I d]at a;have:=l j u a;simpa using this
  ·rw[F (by omega)]at a;have:=g _ u a;rw[show off+T.size+(j-c.length)=off+j by omega]at this;exact this
def ob:Value->List Nat
 | .slice (some a) _ _=>[a.block]
 |_=>[]
def Row(H:ae)(e:TypeId)(size:Nat)(v:Value)(n:Nat)(cs:List Value):Prop:=
 cs.length=n*size/\
 ((v= .slice none 0 0/\n=0)\/
  ∃g cap a,v= .slice (some ⟨g,0,none⟩) n cap/\H[g]? =some (.cells a e (0,0))/\n<=cap/\cap<=maxLen/\a.size=cap*size/\a.toList.take (n*size)=cs)
theorem Row.nil(H:ae)(e:TypeId)(size:Nat):Row H e size (.slice none 0 0) 0 []:=⟨by simp,.inl ⟨rfl,rfl⟩⟩
theorem Row.lt{H:ae}{e:TypeId}{size:Nat}{v:Value}{n:Nat}{cs:List Value}(h:Row H e size v n cs):∀k∈ob v,k<H.size:=by
 intro k a;rcases h.2 with⟨rfl,_⟩|⟨g,cap,b,rfl,c,_⟩
 ·simp[ob]at a
 ·simp[ob]at a;subst a;exact(E.1 c).1
theorem Row.cn{H H':ae}{M:List Nat}{e:TypeId}{size:Nat}{v:Value}{n:Nat}{cs:List Value}(h:Row H e size v n cs)(k:au M H H')(hm:∀i∈ob v,i∉M):Row H' e size v n cs:=by
 refine⟨h.1,?_⟩;rcases h.2 with c|⟨g,cap,a,rfl,b,rest⟩
 ·exact .inl c
 ·exact .inr ⟨g,cap,a,rfl,by rw[k.2 g (E.1 b).1 (hm g (by simp[ob]))];exact b,rest⟩
def cT(T:Ty α)(H:ae)(M:List Nat)(e:TypeId)(v:Value)(xs:List α):Prop:=
 xs.length<=140737488355328/\∃a,Row H e T.size v xs.length a/\dR T H M a xs
theorem cT.nil(H:ae)(M:List Nat)(e:TypeId):cT T H M e (.slice none 0 0) []:=⟨by simp,[],Row.nil _ _ _,.nil⟩
theorem cT.sl{T:Ty α}{H:ae}{M M':List Nat}{e:TypeId}{v:Value}{xs:List α}(h:cT T H M e v xs)(hv:∀k∈ob v,k∉M')(w:∀k,k∈M'->k∈M):Sl T H M' v xs:=by
 obtain⟨D,y,t,p⟩:=h;rcases t.2 with⟨rfl,s⟩|⟨g,cap,f,rfl,d,l,m,z,n⟩
 ·exact .inl ⟨_,rfl,List.eq_nil_of_length_eq_zero s⟩
 ·have a:=(E.1 d).1;refine .inr ⟨g,0,cap,rfl,a,hv g (by simp[ob]),l,m,by omega,λi q=>?_⟩;obtain⟨c,o,r⟩:=p.get i q;refine⟨a,hv g (by simp[ob]),c,T.tr o (au.refl _ _) (Mv.sub w),λj u x=>?_⟩;have b:=r j u x;unfold cell;rw[d];rw[<-n,List.getElem?_take]at b;split at b
  ·simpa using b
  ·cases b
theorem cT.cn{T:Ty α}{H H':ae}{M W M':List Nat}{e:TypeId}{v:Value}{xs:List α}(h:cT T H M e v xs)(k:au W H H')(f:∀i,i∈W->i∈M)(hv:∀i∈ob v,i∉W)(m:Mv H M M'):cT T H' M' e v xs:=by
 obtain⟨c,a,d,b⟩:=h;exact⟨c,a,d.cn k hv,b.tr (k.mono f) m⟩
theorem cT.at{T:Ty α}{H H':ae}{M:List Nat}{e:TypeId}{v:Value}{xs:List α}(h:cT T H M e v xs)(k:au [] H H'):cT T H' M e v xs:=
 h.cn k (λ_ h=>by cases h) (λ_ _ h=>by cases h) (Mv.refl _ _)
end
def cD(n:Int):Prop:= -9223372036854775808<=n/\n<=9223372036854775807
def str(l:List UInt8):Value:= .string ⟨l.toArray⟩
def iv(n:Int):Value:= .int .i64 n
def bv(b:UInt8):Value:= .int .u8 (b.toNat:Int)
def yu{α:Type}(size:Nat)(agg:Bool)(enc:α->List Value)(ok:α->Prop)(hlen:∀x,(enc x).length=size)(a:∀x,∀u∈enc x,u.oneCell'=true)(pos:0<size)(sc:agg=false->size=1):Ty α where
 size:=size
 agg:=agg
 R:=λ_ _ b x=>b=enc x/\ok x
 len:=λh=>by rw[h.1];exact hlen _
 one:=λh=>by rw[h.1];exact a _
 tr:=λh _ _=>h
 pos:=pos
 sc:=sc
def oP:Ty Int:=yu 1 false (λn=>[iv n]) cD (λ_=>rfl) (λ_ u a=>by simp at a;subst a;rfl) (by decide) (λ_=>rfl)
def dy:Ty UInt8:=yu 1 false (λb=>[bv b]) (λ_=>True) (λ_=>rfl) (λ_ u a=>by simp at a;subst a;rfl) (by decide) (λ_=>rfl)
def ia{α:Type}(T:Ty α):Ty (List α)where
 size:=1
 agg:=false
 R:=λH M d f=>∃v,d=[v]/\Sl T H M v f
 len:=λ⟨_,h,_⟩=>by rw[h];rfl
 one:=λ⟨v,h,a⟩ u c=>by
  rw[h]at c;simp at c;subst c;rcases a with⟨_,rfl,_⟩|⟨b,e,cap,rfl,_⟩<;>rfl
 tr:=λ⟨v,h,a⟩ k m=>⟨v,h,a.tr k m⟩
 pos:=by decide
 sc:=λ_=>rfl
theorem Pf{H:ae}{M:List Nat}{v:Value}{n:Int}:oP.V H M v n↔v=iv n/\cD n:=by
 unfold Ty.V;constructor
 ·rintro⟨a,⟨rfl,h⟩,rfl⟩;exact⟨rfl,h⟩
 ·rintro⟨rfl,h⟩;exact⟨_,⟨rfl,h⟩,rfl⟩
theorem yv{α:Type}{T:Ty α}{H:ae}{M:List Nat}{v:Value}{xs:List α}:(ia T).V H M v xs↔Sl T H M v xs:=by
 unfold Ty.V;constructor
 ·rintro⟨a,⟨u,rfl,h⟩,rfl⟩;exact h
 ·intro h;exact⟨_,⟨v,rfl,h⟩,rfl⟩
def Bx(H:ae)(g:Nat)(e:TypeId)(cs:List Value):Prop:=H[g]? =some (.cells cs.toArray e (0,0))
theorem Bx.lt{H:ae}{g:Nat}{e:TypeId}{cs:List Value}(h:Bx H g e cs):g<H.size:=(E.1 h).1
theorem Bx.cn{H H':ae}{M:List Nat}{g:Nat}{e:TypeId}{cs:List Value}(h:Bx H g e cs)(k:au M H H')(hm:g∉M):Bx H' g e cs:=by
 unfold Bx at*;rw[k.2 g (E.1 h).1 hm];exact h
theorem Bx.at{H H':ae}{g:Nat}{e:TypeId}{cs:List Value}(h:Bx H g e cs)(k:au [] H H'):Bx H' g e cs:=h.cn k (by simp)
theorem Bx.cell{H:ae}{g:Nat}{e:TypeId}{cs:List Value}(h:Bx H g e cs)(o:Nat):cell H g o=cs[o]? :=by
 unfold NB.cell;rw[h];simp
end Go.NB
