/- part -/
import Derived.Test.YtpechfcbnoggfaaGreatDoorCore
import Derived.Laws.AppendOwn
import GoSem.ClaimData
namespace Go.NB
def cell(H:ab)(b o:Nat):Option Value:=
 match H[b]? with
 |some (.cells c _ _)=>c[o]?
 |_=>none
theorem dg{w:World}{H:ab}(hw:w.heap=H)(b o:Nat):w.cell? ⟨b,o,none⟩=cell H b o:=by
 subst hw;unfold World.cell? cell;simp only[Option.isSome_none];rfl
theorem nB{H:ab}{b o:Nat}{v:Value}(h:cell H b o=some v):b<H.size:=by
 unfold cell at h;by_cases hb:b<H.size
 ·exact hb
 ·rw[Array.getElem?_eq_none (by omega)]at h;cases h
theorem fj{M:List Nat}{H H':ab}{b o:Nat}{v:Value}(h:cell H b o=some v)(k:ak M H H')(hb:b∉M):cell H' b o=some v:=by
 have:=k.2 b (nB h) hb;unfold cell at*;rw[this];exact h
def Mv(H:ab)(M M':List Nat):Prop:=∀k,k∈M'→k∈M∨H.size≤k
theorem Mv.refl(H:ab)(M:List Nat):Mv H M M:=fun _ h=>.inl h
theorem Mv.new{H:ab}{M:List Nat}{g:Nat}(hg:H.size≤g):Mv H M (g::M):=fun k hk=>by
 cases hk with
 |head=>exact .inr hg
 |tail _ h=>exact .inl h
theorem Mv.sub{H:ab}{M M':List Nat}(h:∀k,k∈M'→k∈M):Mv H M M':=fun k hk=>.inl (h k hk)
structure Ty(α:Type)where
 size:Nat
 agg:Bool
 R:ab→List Nat→List Value→α→Prop
 len:∀{H M cs x},R H M cs x→cs.length=size
 one:∀{H M cs x},R H M cs x→∀u∈cs,u.oneCell'=true
 tr:∀{H H' M M' cs x},R H M cs x→ak M H H'→Mv H M M'→R H' M' cs x
 pos:0<size
 sc:agg=false→size=1
section
variable {α:Type} (T:Ty α)
def Ty.val(cs:List Value):Value:=bif T.agg then .agg cs.toArray else cs.headD undef
def Ty.V(H:ab)(M:List Nat)(v:Value)(x:α):Prop:=∃cs,T.R H M cs x∧v=T.val cs
theorem Ty.V.tr{T:Ty α}{H H':ab}{M M':List Nat}{v:Value}{x:α}(h:T.V H M v x)(k:ak M H H')(m:Mv H M M'):T.V H' M' v x:=
 let ⟨cs,h1,h2⟩:=h;⟨cs,T.tr h1 k m,h2⟩
theorem Ty.A6{T:Ty α}{H:ab}{M:List Nat}{cs:List Value}{x:α}(h:T.R H M cs x):(T.val cs).cells=cs.toArray:=by
 unfold Ty.val;cases ha:T.agg with
 |true=>rfl
 |false=>
  have hl:=T.len h;rw[T.sc ha]at hl;match cs,hl with
  |[u],_=>
   have:=T.one h u (by simp);cases u<;>first|rfl|simp[Value.oneCell']at this
def At(H:ab)(M:List Nat)(b o:Nat)(x:α):Prop:=
 b<H.size∧b∉M∧∃cs,T.R H M cs x∧∀j u,cs[j]? =some u→cell H b (o+j)=some u
theorem At.tr{T:Ty α}{H H':ab}{M M':List Nat}{b o:Nat}{x:α}(h:At T H M b o x)(k:ak M H H')(m:Mv H M M'):At T H' M' b o x:=by
 obtain⟨hb,hm,cs,hr,hc⟩:=h;refine⟨Nat.lt_of_lt_of_le hb k.1,fun hx=>?_,cs,T.tr hr k m,fun j u hj=>fj (hc j u hj) k hm⟩;rcases m b hx with h1|h1
 ·exact hm h1
 ·omega
def gm(H:ab)(M:List Nat)(v:Value)(x:α):Prop:=∃b o,v= .pointer (some ⟨b,o,none⟩)∧At T H M b o x
theorem gm.tr{T:Ty α}{H H':ab}{M M':List Nat}{v:Value}{x:α}(h:gm T H M v x)(k:ak M H H')(m:Mv H M M'):gm T H' M' v x:=
 let ⟨b,o,e,h⟩:=h;⟨b,o,e,h.tr k m⟩
def Sl(H:ab)(M:List Nat)(v:Value)(xs:List α):Prop:=
 (∃p,v= .slice p 0 0∧xs=[])∨
 ∃b off cap,v= .slice (some ⟨b,off,none⟩) xs.length cap∧b<H.size∧b∉M∧xs.length≤cap∧cap≤maxLen∧xs.length≤9223372036854775807∧
  ∀i (h:i<xs.length),At T H M b (off+i*T.size) xs[i]
theorem Sl.tr{T:Ty α}{H H':ab}{M M':List Nat}{v:Value}{xs:List α}(h:Sl T H M v xs)(k:ak M H H')(m:Mv H M M'):Sl T H' M' v xs:=by
 rcases h with h|⟨b,off,cap,e,hb,hm,h1,h2,h3,h4⟩
 ·exact .inl h
 ·refine .inr ⟨b,off,cap,e,Nat.lt_of_lt_of_le hb k.1,fun hx=>?_,h1,h2,h3,fun i hi=>(h4 i hi).tr k m⟩;rcases m b hx with h5|h5
  ·exact hm h5
  ·omega
theorem Sl.at{T:Ty α}{H H':ab}{M:List Nat}{v:Value}{xs:List α}(h:Sl T H M v xs)(k:ak [] H H'):Sl T H' M v xs:=h.tr k.nil (Mv.refl _ _)
theorem Ty.V.at{T:Ty α}{H H':ab}{M:List Nat}{v:Value}{x:α}(h:T.V H M v x)(k:ak [] H H'):T.V H' M v x:=h.tr k.nil (Mv.refl _ _)
theorem gm.at{T:Ty α}{H H':ab}{M:List Nat}{v:Value}{x:α}(h:gm T H M v x)(k:ak [] H H'):gm T H' M v x:=h.tr k.nil (Mv.refl _ _)
theorem Sl.nil(H:ab)(M:List Nat):Sl T H M (.slice none 0 0) []:= .inl ⟨_,rfl,rfl⟩
theorem Sl.len{T:Ty α}{H:ab}{M:List Nat}{v:Value}{xs:List α}(h:Sl T H M v xs):xs.length≤9223372036854775807:=by
 rcases h with⟨_,_,rfl⟩|⟨b,off,cap,e,hb,hm,h1,h2,h3,h4⟩
 ·simp
 ·exact h3
inductive dm(H:ab)(M:List Nat):List Value→List α→Prop
 |nil:dm H M [] []
 |cons {c rest x xs}:T.R H M c x→dm H M rest xs→dm H M (c++rest) (x::xs)
theorem dm.tr{T:Ty α}{H H':ab}{M M':List Nat}(k:ak M H H')(m:Mv H M M'){cs:List Value}{xs:List α}(h:dm T H M cs xs):dm T H' M' cs xs:=by
 induction h with
 |nil=>exact .nil
 |cons h1 _ ih=>exact .cons (T.tr h1 k m) ih
theorem dm.length{T:Ty α}{H:ab}{M:List Nat}{cs:List Value}{xs:List α}(h:dm T H M cs xs):cs.length=xs.length*T.size:=by
 induction h with
 |nil=>simp
 |cons h1 _ ih=>rw[List.length_append,T.len h1,ih,List.length_cons,Nat.succ_mul,Nat.add_comm]
theorem dm.append{T:Ty α}{H:ab}{M:List Nat}{cs ds:List Value}{xs ys:List α}(h:dm T H M cs xs)(k:dm T H M ds ys):dm T H M (cs++ds) (xs++ys):=by
 induction h with
 |nil=>exact k
 |cons h1 _ ih=>rw[List.append_assoc,List.cons_append];exact .cons h1 ih
theorem dm.one{T:Ty α}{H:ab}{M:List Nat}{cs:List Value}{xs:List α}(h:dm T H M cs xs):∀u∈cs,u.oneCell'=true:=by
 induction h with
 |nil=>intro u hu;cases hu
 |cons h1 _ ih=>
  intro u hu;rcases List.mem_append.1 hu with h2|h2
  ·exact T.one h1 u h2
  ·exact ih u h2
theorem dm.single{T:Ty α}{H:ab}{M:List Nat}{cs:List Value}{x:α}(h:T.R H M cs x):dm T H M cs [x]:=by
 have:=dm.cons (T:=T) h .nil;rwa[List.append_nil]at this
theorem dm.get{T:Ty α}{H:ab}{M:List Nat}{cs:List Value}{xs:List α}(h:dm T H M cs xs):
  ∀i (hi:i<xs.length),∃c,T.R H M c xs[i]∧∀j u,c[j]? =some u→cs[i*T.size+j]? =some u:=by
 induction h with
 |nil=>intro i hi;simp at hi
 | @cons c rest x xs h1 _ ih=>
  intro i hi;match i with
  |0=>
   refine⟨c,h1,fun j u hj=>?_⟩;rw[Nat.zero_mul,Nat.zero_add];obtain⟨hlt,e⟩:=List.getElem?_eq_some_iff.1 hj;rw[List.getElem?_append_left hlt,hj]
  |i+1=>
   obtain⟨c',hc',hj'⟩:=ih i (by simpa using hi);refine⟨c',by simpa using hc',fun j u hj=>?_⟩;have hl:=T.len h1;have e:(i+1)*T.size+j=c.length+(i*T.size+j):=by rw[hl,Nat.succ_mul];omega
   rw[e,List.getElem?_append_right (by omega),Nat.add_sub_cancel_left];exact hj' j u hj
theorem Sl.wZ{T:Ty α}{H:ab}{M:List Nat}{b:Nat}:∀(xs:List α) (off:Nat),(∀i (h:i<xs.length),At T H M b (off+i*T.size) xs[i])→
  ∃css,dm T H M css xs∧∀j u,css[j]? =some u→cell H b (off+j)=some u
 |[],_,_=>⟨[],.nil,fun j u h=>by simp at h⟩
 |x::xs,off,h=>by
  obtain⟨_,_,c,hc,hj⟩:=h 0 (by simp)
  obtain ⟨css, h1, h2⟩ := Sl.wZ xs (off + T.size) (fun i hi=>by
   have:=h (i+1) (by simpa using hi);rw[show off+(i+1)*T.size=off+T.size+i*T.size by rw[Nat.succ_mul];omega]at this;simpa using this)
  refine⟨c++css,.cons (by simpa using hc) h1,fun j u hu=>?_⟩;have hl:=T.len hc;by_cases hjl:j<c.length
  ·rw[List.getElem?_append_left hjl]at hu;have:=hj j u hu;simpa using this
  ·rw[List.getElem?_append_right (by omega)]at hu;have:=h2 _ u hu;rw[show off+T.size+(j-c.length)=off+j by omega]at this;exact this
def ob:Value→List Nat
 | .slice (some a) _ _=>[a.block]
 |_=>[]
def Row(H:ab)(e:TypeId)(size:Nat)(v:Value)(n:Nat)(cs:List Value):Prop:=
 cs.length=n*size∧
 ((v= .slice none 0 0∧n=0)∨
  ∃g cap cur,v= .slice (some ⟨g,0,none⟩) n cap∧H[g]? =some (.cells cur e (0,0))∧n≤cap∧cap≤maxLen∧cur.size=cap*size∧cur.toList.take (n*size)=cs)
theorem Row.nil(H:ab)(e:TypeId)(size:Nat):Row H e size (.slice none 0 0) 0 []:=⟨by simp,.inl ⟨rfl,rfl⟩⟩
theorem Row.lt{H:ab}{e:TypeId}{size:Nat}{v:Value}{n:Nat}{cs:List Value}(h:Row H e size v n cs):∀k∈ob v,k<H.size:=by
 intro k hk;rcases h.2 with⟨rfl,_⟩|⟨g,cap,cur,rfl,hg,_⟩
 ·simp[ob]at hk
 ·simp[ob]at hk;subst hk;exact(Array.getElem?_eq_some_iff.1 hg).1
theorem Row.bQ{H H':ab}{M:List Nat}{e:TypeId}{size:Nat}{v:Value}{n:Nat}{cs:List Value}(h:Row H e size v n cs)(k:ak M H H')(hm:∀i∈ob v,i∉M):Row H' e size v n cs:=by
 refine⟨h.1,?_⟩;rcases h.2 with hn|⟨g,cap,cur,rfl,hg,rest⟩
 ·exact .inl hn
 ·exact .inr ⟨g,cap,cur,rfl,by rw[k.2 g (Array.getElem?_eq_some_iff.1 hg).1 (hm g (by simp[ob]))];exact hg,rest⟩
def bf(T:Ty α)(H:ab)(M:List Nat)(e:TypeId)(v:Value)(xs:List α):Prop:=
 xs.length≤140737488355328∧∃cs,Row H e T.size v xs.length cs∧dm T H M cs xs
theorem bf.nil(H:ab)(M:List Nat)(e:TypeId):bf T H M e (.slice none 0 0) []:=⟨by simp,[],Row.nil _ _ _,.nil⟩
theorem bf.sl{T:Ty α}{H:ab}{M M':List Nat}{e:TypeId}{v:Value}{xs:List α}(h:bf T H M e v xs)(hv:∀k∈ob v,k∉M')(hs:∀k,k∈M'→k∈M):Sl T H M' v xs:=by
 obtain⟨hl,cs,hr,he⟩:=h;rcases hr.2 with⟨rfl,hn⟩|⟨g,cap,cur,rfl,hg,h1,h2,h3,h4⟩
 ·exact .inl ⟨_,rfl,List.eq_nil_of_length_eq_zero hn⟩
 ·have hlt:=(Array.getElem?_eq_some_iff.1 hg).1;refine .inr ⟨g,0,cap,rfl,hlt,hv g (by simp[ob]),h1,h2,by omega,fun i hi=>?_⟩;obtain⟨c,hc,hj⟩:=he.get i hi;refine⟨hlt,hv g (by simp[ob]),c,T.tr hc (ak.refl _ _) (Mv.sub hs),fun j u hu=>?_⟩;have h5:=hj j u hu;unfold cell;rw[hg];rw[←h4,List.getElem?_take]at h5;split at h5
  ·simpa using h5
  ·cases h5
theorem bf.bQ{T:Ty α}{H H':ab}{M W M':List Nat}{e:TypeId}{v:Value}{xs:List α}(h:bf T H M e v xs)(k:ak W H H')(hw:∀i,i∈W→i∈M)(hv:∀i∈ob v,i∉W)(m:Mv H M M'):bf T H' M' e v xs:=by
 obtain⟨hl,cs,hr,he⟩:=h;exact⟨hl,cs,hr.bQ k hv,he.tr (k.mono hw) m⟩
theorem bf.at{T:Ty α}{H H':ab}{M:List Nat}{e:TypeId}{v:Value}{xs:List α}(h:bf T H M e v xs)(k:ak [] H H'):bf T H' M e v xs:=
 h.bQ k (fun _ h=>by cases h) (fun _ _ h=>by cases h) (Mv.refl _ _)
end
def aE(n:Int):Prop:= -9223372036854775808≤n∧n≤9223372036854775807
def str(l:List UInt8):Value:= .string ⟨l.toArray⟩
def iv(n:Int):Value:= .int .i64 n
def bv(b:UInt8):Value:= .int .u8 (b.toNat:Int)
def oO{α:Type}(size:Nat)(agg:Bool)(enc:α→List Value)(ok:α→Prop)(hlen:∀x,(enc x).length=size)(hone:∀x,∀u∈enc x,u.oneCell'=true)(pos:0<size)(sc:agg=false→size=1):Ty α where
 size:=size
 agg:=agg
 R:=fun _ _ cs x=>cs=enc x∧ok x
 len:=fun h=>by rw[h.1];exact hlen _
 one:=fun h=>by rw[h.1];exact hone _
 tr:=fun h _ _=>h
 pos:=pos
 sc:=sc
def j6:Ty Int:=oO 1 false (fun n=>[iv n]) aE (fun _=>rfl) (fun _ u hu=>by simp at hu;subst hu;rfl) (by decide) (fun _=>rfl)
def aV:Ty UInt8:=oO 1 false (fun b=>[bv b]) (fun _=>True) (fun _=>rfl) (fun _ u hu=>by simp at hu;subst hu;rfl) (by decide) (fun _=>rfl)
def bO{α:Type}(T:Ty α):Ty (List α)where
 size:=1
 agg:=false
 R:=fun H M cs xs=>∃v,cs=[v]∧Sl T H M v xs
 len:=fun⟨_,h,_⟩=>by rw[h];rfl
 one:=fun⟨v,h,hs⟩ u hu=>by
  rw[h]at hu;simp at hu;subst hu;rcases hs with⟨_,rfl,_⟩|⟨b,off,cap,rfl,_⟩<;>rfl
 tr:=fun⟨v,h,hs⟩ k m=>⟨v,h,hs.tr k m⟩
 pos:=by decide
 sc:=fun _=>rfl
theorem GY{H:ab}{M:List Nat}{v:Value}{n:Int}:j6.V H M v n↔v=iv n∧aE n:=by
 unfold Ty.V;constructor
 ·rintro⟨cs,⟨rfl,h⟩,rfl⟩;exact⟨rfl,h⟩
 ·rintro⟨rfl,h⟩;exact⟨_,⟨rfl,h⟩,rfl⟩
theorem zS{H:ab}{M:List Nat}{v:Value}{n:UInt8}:aV.V H M v n↔v=bv n:=by
 unfold Ty.V;constructor
 ·rintro⟨cs,⟨rfl,h⟩,rfl⟩;rfl
 ·rintro rfl;exact⟨_,⟨rfl,trivial⟩,rfl⟩
theorem ib{α:Type}{T:Ty α}{H:ab}{M:List Nat}{v:Value}{xs:List α}:(bO T).V H M v xs↔Sl T H M v xs:=by
 unfold Ty.V;constructor
 ·rintro⟨cs,⟨u,rfl,h⟩,rfl⟩;exact h
 ·intro h;exact⟨_,⟨v,rfl,h⟩,rfl⟩
def Bx(H:ab)(g:Nat)(e:TypeId)(cs:List Value):Prop:=H[g]? =some (.cells cs.toArray e (0,0))
theorem Bx.lt{H:ab}{g:Nat}{e:TypeId}{cs:List Value}(h:Bx H g e cs):g<H.size:=(Array.getElem?_eq_some_iff.1 h).1
theorem Bx.bQ{H H':ab}{M:List Nat}{g:Nat}{e:TypeId}{cs:List Value}(h:Bx H g e cs)(k:ak M H H')(hm:g∉M):Bx H' g e cs:=by
 unfold Bx at*;rw[k.2 g (Array.getElem?_eq_some_iff.1 h).1 hm];exact h
theorem Bx.at{H H':ab}{g:Nat}{e:TypeId}{cs:List Value}(h:Bx H g e cs)(k:ak [] H H'):Bx H' g e cs:=h.bQ k (by simp)
theorem Bx.cell{H:ab}{g:Nat}{e:TypeId}{cs:List Value}(h:Bx H g e cs)(o:Nat):cell H g o=cs[o]? :=by
 unfold NB.cell;rw[h];simp
theorem Bx.get{H:ab}{g o:Nat}{e:TypeId}{cs:List Value}{v:Value}(h:Bx H g e cs)(hi:cs[o]? =some v):NB.cell H g o=some v:=(h.cell o).trans hi
end Go.NB
