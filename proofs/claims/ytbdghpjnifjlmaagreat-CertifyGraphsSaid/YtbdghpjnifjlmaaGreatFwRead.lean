/- What an argument that reads as data is in the heap: by the shape of its type. -/
import Derived.Test.YtbdghpjnifjlmaaGreatFwMem
import Derived.ChangeReads
import Derived.ChangeArms
import Derived.DataReads
import Derived.WideShapes
import Derived.RowKit
import Derived.ChangeOld
import Derived.Below
import Derived.DataShut
import Derived.ChangeSame
set_option linter.all false
namespace Go.Fw
open Go Go.RowKit Go.ChangeShapes Go.WideShapes
inductive Sh where
 |int (k:IntKind)|bool|sl (e:Sh)|nil|cons (a b:Sh)
def Sh.size:Sh->Nat
 | .int _| .bool| .sl _=>1
 | .nil=>0
 | .cons a b=>a.size+b.size
def Rd(w:World):Sh->List Value->Prop
 | .int k,cs=>∃n,cs= [.int k n]/\(Lit.int k n).wf=true
 | .bool,cs=>∃b,cs= [.bool b]
 | .sl e,cs=>cs= [.slice none 0 0]\/∃ (a:Addr) (len cap:Nat),cs= [.slice (some a) len cap]/\len<=cap/\cap<=maxLen/\
    ∀i,i<len->∃I,I.length=e.size/\aM w (a.add (i*e.size)) 0 I/\Rd w e I
 | .nil,cs=>cs= []
 | .cons a b,cs=>∃x y,cs=x++y/\Rd w a x/\Rd w b y
def BM(P:Program)(r:TypeId->Option Sh):Nat->List Field->Option Sh
 |_,[]=>some .nil
 |off,f::l=>match r f.type with
  |some s=>if f.offset=off/\P.cellsOf f.type=s.size then (BM P r (off+s.size) l).map (.cons s ·) else none
  |none=>none
def uX(P:Program):Nat->TypeId->Option Sh
 |0,_=>none
 |n+1,t=>match P.underlying t with
  |some (.int k)=>some (.int k)
  |some .bool=>some .bool
  |some (.slice e)=>match uX P n e with
   |some s=>if P.cellsOf e=s.size then some (.sl s) else none
   |none=>none
  |some (.struct fs)=>match BM P (uX P n) 0 fs.toList with
   |some s=>if P.cellsOf t=s.size then some s else none
   |none=>none
  |_=>none
theorem OM{P:Program}{r:TypeId->Option Sh}:∀ {l:List Field} {off:Nat} {s:Sh},BM P r off l=some s->s=.nil\/∃a b,s=.cons a b
 | [],_,s,h=>by simp[BM]at h;exact .inl h.symm
 |f::l,off,s,h=>by
  simp only[BM]at h;split at h
  .split at h
   .simp only[Xf]at h;obtain⟨b,_,rfl⟩:=h;exact .inr ⟨_,_,rfl⟩
   .simp at h
  .simp at h
theorem aM.Hh{w:World}{a:Addr}:∀ {vs:List Value} {i:Nat},(∀j v,vs[j]? =some v->w.cell? (a.add (i+j))=some v)->aM w a i vs
 | [],_,_=>trivial
 |v::vs,i,h=>⟨by simpa using h 0 v rfl,aM.Hh λj u I=>by
   have:=h (j+1) u (by simpa using I)
   rwa [show i+1+j=i+ (j+1) by omega]⟩
section
variable{H:Type}{enc:TypeId × Value->H}{P:Program}{w:World}{base:Nat}{spare:Nat->Bool}{held:Bool}
theorem CA{n m:Nat}{cs:List Value}(I:∀ (t:TypeId) (cs:List Value) (x:DataW H × List MemPlace) (s:Sh),DataW.trod enc P w base spare held m t cs=some x->uX P n t=some s->Rd w s cs):
 ∀ (l:List Field) (off:Nat) (s:Sh),BM P (uX P n) off l=some s->cs.length=off+s.size->(∀f∈l,∃x,DataW.trod enc P w base spare held m f.type ((cs.drop f.offset).take (P.cellsOf f.type))=some x)->Rd w s (cs.drop off)
 | [],off,s,h,hl,_=>by
   simp only[BM,Wu]at h;subst h;simp only[Sh.size,XN]at hl;simp only[Rd,List.drop_eq_nil_iff];omega
 |f::l,off,s,h,hl,hf=>by
  simp only[BM]at h;split at h
  .rename_i a ha;split at h
   .rename_i J;simp only[Xf]at h;obtain⟨b,hb,rfl⟩:=h;simp only[Sh.size]at hl;obtain⟨x,Q⟩:=hf f (by simp);have h1:=I _ _ _ _ Q ha;rw[J.1,J.2]at h1;have O:=CA I l (off+a.size) b hb (by omega) λg U=>hf g (by simp[U]);refine⟨_,_,?_,h1,O⟩;rw[<- ZE,WN]
   .simp at h
  .simp at h
theorem Q': ∀ (n m:Nat) (t:TypeId) (cs:List Value) (x:DataW H × List MemPlace) (s:Sh),DataW.trod enc P w base spare held m t cs=some x->uX P n t=some s->Rd w s cs:=by
 intro n
 induction n with
 |zero=>intro m t cs x s _ h;simp[uX]at h
 |succ n Y=>
  intro m t cs x s h hs;simp only[uX]at hs;split at hs
  .rename_i k hu;obtain⟨n,rfl,_,hw⟩:=DataW.trod_int hu h;cases hs;exact⟨n,rfl,hw⟩
  .rename_i hu;obtain⟨b,rfl,_⟩:=DataW.trod_bool hu h;cases hs;exact⟨b,rfl⟩
  .rename_i e hu;split at hs
   .rename_i a ha;split at hs
    .rename_i U;cases hs;rcases DataW.trod_slice hu h with⟨rfl,_⟩| ⟨p,len,cap,elems,rest,m',_,rfl,_,_,h1,h2,h3,h4,_,_⟩
     .exact .inl rfl
     .refine .inr ⟨p,len,cap,rfl,h1,h2,λi hi=>?_⟩;have I:=h4 i hi;rw[show elems[i]? =some (elems[i]'(by omega)) by simp[show i<elems.length by omega]]at I;simp only[Ys]at I;obtain⟨es,he,Z⟩:=I;obtain⟨_,hl,O⟩:=World.cells?_some he;rw[U]at he hl O;refine⟨es,hl,aM.Hh λj v hj=>?_,Y _ _ _ _ _ Z ha⟩;have ar:j<es.length:=(Ws.1 hj).1;rw[Wr,O j (by omega),hj]
    .simp at hs
   .simp at hs
  .rename_i Q hu;split at hs
   .rename_i a ha;split at hs
    .rename_i U;cases hs;obtain⟨X,m',rfl,_,hl,Z,hf⟩:=DataW.trod_struct hu h;have:=CA (n:=n) (m:=m') (cs:=cs) (λt cs x s h h'=>Y m' t cs x s h h') Q.toList 0 _ ha (by rw[hl,U];omega) ?_
     .simpa using this
     .intro f V;obtain⟨i,hi⟩:=XB V;have J:Q[i]? =some f:=by simpa using hi
      have:=hf i f J;have an:i<Q.size:=(Xb.1 J).1;rw[this];exact⟨X[i]'(by omega),by simp[show i<X.length by omega]⟩
    .simp at hs
   .simp at hs
  .simp at hs
def O'(w:World):Sh->Value->Prop
 | .int k,v=>∃n,v=.int k n/\(Lit.int k n).wf=true
 | .bool,v=>∃b,v=.bool b
 | .sl e,v=>v=.slice none 0 0\/∃ (a:Addr) (len cap:Nat),v=.slice (some a) len cap/\len<=cap/\cap<=maxLen/\
    ∀i,i<len->∃I,I.length=e.size/\aM w (a.add (i*e.size)) 0 I/\Rd w e I
 |s,v=>∃cs:List Value,v=.agg cs.toArray/\Rd w s cs
theorem OU{r:Reach}{b0 n:Nat}{t:TypeId}{v:Value}{d:DataW H}{ps:List MemPlace}{s:Sh}(hs:uX P n t=some s)(hv:Value.okWide P w r b0 t v)(U:DataW.Trod enc P w base spare held t v d ps):O' w s v:=by
 obtain⟨m,hm⟩:=U;have hr:=Q' _ _ _ _ _ _ hm hs;cases n with
 |zero=>simp[uX]at hs
 |succ n=>
  simp only[uX]at hs;split at hs
  .rename_i k hu;cases hs;obtain⟨n,rfl⟩:=okWide_int hu hv;obtain⟨n',h1,Q⟩:=hr;simp[Value.cells]at h1;subst h1;exact⟨n,rfl,Q⟩
  .rename_i hu;cases hs;obtain⟨b,hb⟩:=hr;simp only[Value.okWide,hu,Cell.okWide]at hv;cases v<;>simp_all[Cell.ok,Value.cells,O']
  .rename_i e hu;split at hs
   .split at hs
    .cases hs;obtain⟨a,len,cap,rfl⟩:=okWide_slice hu hv;rcases hr with h| ⟨X,O,J,h,h1⟩
     .simp [Value.cells]at h;obtain⟨rfl,rfl,rfl⟩:=h;exact .inl rfl
     .simp [Value.cells]at h;obtain⟨rfl,rfl,rfl⟩:=h;exact .inr ⟨_,_,_,rfl,h1⟩
    .simp at hs
   .simp at hs
  .rename_i V hu;obtain⟨cs,rfl,_⟩:=okWide_struct hu hv;split at hs
   .rename_i a ha;split at hs
    .cases hs;have I:Rd w s cs.toList:=hr;rcases OM ha with rfl| ⟨a,b,rfl⟩<;>exact⟨cs.toList,by simp,I⟩
    .simp at hs
   .simp at hs
  .simp at hs
theorem ue{w':World}:∀ {I:List TypeId} {vs:List Value} {ds:List (DataW H)} {ps:List MemPlace},DataW.TrodAll enc P w base spare held I vs ds ps->(∀p∈ps,w.sameAt w' p)->DataW.TrodAll enc P w' base spare held I vs ds ps
 | [],[],[],_,h,_=>h
 |t::I,v::vs,d::ds,ps,h,hs=>by
  obtain⟨p,q,⟨n,h1⟩,O,rfl⟩:=h;exact⟨p,q,⟨n,DataW.trod_carry n _ _ _ h1 λx J=>hs x (by simp[J])⟩,ue O λx J=>hs x (by simp[J]),rfl⟩
 | [],[],_::_,_,h,_=>h.elim
 | [],_::_,_,_,h,_=>h.elim
 |_::_,[],_,_,h,_=>h.elim
 |_::_,_::_,[],_,h,_=>h.elim
def Sh.pos:Sh->Bool
 | .int _| .bool| .nil=>true
 | .sl e=>Nat.ble 1 e.size && e.pos
 | .cons a b=>a.pos && b.pos
theorem A9{r:TypeId->Option Sh}:∀ {l:List Field} {off:Nat} {s:Sh},BM P r off l=some s->s.pos=true->∀f∈l,∃a,r f.type=some a/\a.pos=true
 | [],_,_,_,_,f,hf=>by simp at hf
 |g::l,off,s,h,hp,f,hf=>by
  simp only[BM]at h;split at h
  .rename_i a ha;split at h
   .simp only[Xf]at h;obtain⟨b,hb,rfl⟩:=h;simp only[Sh.pos,ts]at hp;rcases V'.1 hf with rfl|hf
    .exact ⟨a,ha,hp.1⟩
    .exact A9 hb hp.2 f hf
   .simp at h
  .simp at h
theorem Ca{n i x:Nat}(h:(List.range n)[i]? =some x):i=x/\i<n:=by
 obtain⟨h1,I⟩:=Ws.1 h;simp at h1 I;exact⟨I,h1⟩
theorem Ik{I:Nat->Bool}(Y:∀b,b<w.heap.size->I b=true):∀ (n m:Nat) (t:TypeId) (cs:List Value) (x:DataW H × List MemPlace) (s:Sh),
 DataW.trod enc P w base (λ_=>true) held m t cs=some x->uX P n t=some s->s.pos=true->DataW.trod enc P w base I held m t cs=some x:=by
 intro n
 induction n with
 |zero=>intro m t cs x s _ h;simp[uX]at h
 |succ n X=>
  intro m t cs x s h hs hp;have h':=h;simp only[uX]at hs;split at hs
  .rename_i k hu;obtain⟨n,rfl,rfl,hw⟩:=DataW.trod_int hu h;cases m with
   |zero=>simp[DataW.trod]at h
   |succ m=>exact trod_int_mk m hu hw
  .rename_i hu;obtain⟨b,rfl,rfl⟩:=DataW.trod_bool hu h;cases m with
   |zero=>simp[DataW.trod]at h
   |succ m=>simp[DataW.trod,hu]
  .rename_i e hu;split at hs
   .rename_i a ha;split at hs
    .rename_i hc;cases hs;simp only[Sh.pos,ts]at hp;have ag:1<=a.size:=Y8 hp.1;rcases DataW.trod_slice hu h with⟨rfl,rfl⟩| ⟨p,len,cap,elems,rest,m',rfl,rfl,rfl,hb,h1,h2,h3,h4,h5,_⟩
     .cases m with
      |zero=>simp[DataW.trod]at h
      |succ m=>simp[DataW.trod,hu]
     .obtain ⟨h5,h6⟩:=h5 rfl;have el:∀i,i<len->(w.cells? base (p.add (i*P.cellsOf e)) (P.cellsOf e)).bind (DataW.trod enc P w base I held m' e)=elems[i]? :=by
       intro i hi;rw[show elems[i]? =some (elems[i]'(by omega)) by simp[show i<elems.length by omega]];have:=h4 i hi;rw[show elems[i]? =some (elems[i]'(by omega)) by simp[show i<elems.length by omega]]at this;simp only[Ys]at this ⊢;obtain⟨U,he,J⟩:=this;exact⟨U,he,X _ _ _ _ _ J ha hp.2⟩
      have er:∀i,i<cap - len->(w.cells? base (p.add ((len+i)*P.cellsOf e)) (P.cellsOf e)).bind (DataW.trod enc P w base I held m' e)=rest[i]? :=by
       intro i hi;rw[show rest[i]? =some (rest[i]'(by omega)) by simp[show i<rest.length by omega]];have:=h6 i hi;rw[show rest[i]? =some (rest[i]'(by omega)) by simp[show i<rest.length by omega]]at this;simp only[Ys]at this ⊢;obtain⟨U,he,J⟩:=this;exact⟨U,he,X _ _ _ _ _ J ha hp.2⟩
      have e1:((List.range len).mapM λi=> (w.cells? base (p.add (i*P.cellsOf e)) (P.cellsOf e)).bind (DataW.trod enc P w base I held m' e))=some elems:=
       mapM_some_of_get _ _ (by simpa using h3) λi x hi=>by
        have J:i=x/\i<len:=Ca hi;rw[<- J.1];exact el i J.2
      have e2:((List.range (cap - len)).mapM λj=> (w.cells? base (p.add ((len+j)*P.cellsOf e)) (P.cellsOf e)).bind (DataW.trod enc P w base I held m' e))=some rest:=
       mapM_some_of_get _ _ (by simpa using h5) λi x hi=>by
        have J:i=x/\i<cap - len:=Ca hi;rw[<- J.1];exact er i J.2
      have e3:(if I p.block then some rest else some [])=some rest:=by
       by_cases h0:cap - len=0
       .have:rest= []:=Wa (by omega);subst this;simp
       .have:=h6 0 (by omega);rw[show rest[0]? =some (rest[0]'(by omega)) by simp[show 0<rest.length by omega]]at this;simp only[Ys]at this;obtain⟨U,he,J⟩:=this;have Q:=World.cells?_block he (by omega);have Z:(p.add ((len+0)*P.cellsOf e)).block=p.block:=by unfold Addr.add;split<;>rfl
        rw[Z]at Q;rw[Y _ Q];rfl
      unfold DataW.trod;simp only[hu];rw[v8 ⟨hb,h1,h2⟩,e1,XD,e2,e3];rfl
    .simp at hs
   .simp at hs
  .rename_i fs hu;split at hs
   .rename_i a ha;split at hs
    .rename_i hc;cases hs;obtain⟨V,m',rfl,rfl,hl,J,hf⟩:=DataW.trod_struct hu h;refine trod_struct_mk hu hl (mapM_some_of_get _ _ (by simpa using J) λi f hi=>?_);have O:fs[i]? =some f:=by simpa using hi
     have az:i<fs.size:=(Xb.1 O).1;obtain⟨b,hb,aa⟩:=A9 ha hp f (Zb hi);have:=hf i f O;rw[show V[i]? =some (V[i]'(by omega)) by simp[show i<V.length by omega]]at this ⊢;exact X _ _ _ _ _ this hb aa
    .simp at hs
   .simp at hs
  .simp at hs
def IS(P:Program)(n:Nat):List TypeId->Bool
 | []=>true
 |t::l=> (match uX P n t with|some s=>s.pos|none=>false) && IS P n l
theorem uc{I:Nat->Bool}(O:∀b,b<w.heap.size->I b=true){n:Nat}:∀ {Q:List TypeId} {vs:List Value} {ds:List (DataW H)} {ps:List MemPlace},IS P n Q=true->
 DataW.TrodAll enc P w base (λ_=>true) held Q vs ds ps->DataW.TrodAll enc P w base I held Q vs ds ps
 | [],[],[],_,_,h=>h
 |t::Q,v::vs,d::ds,ps,hs,h=>by
  simp only[IS,ts]at hs;obtain⟨p,q,⟨m,h1⟩,X,rfl⟩:=h;obtain⟨J,V⟩:=hs;split at J
  .rename_i s U;exact⟨p,q,⟨m,Ik O n m t _ _ s h1 U J⟩,uc O V X,rfl⟩
  .simp at J
 | [],[],_::_,_,_,h=>h.elim
 | [],_::_,_,_,_,h=>h.elim
 |_::_,[],_,_,_,h=>h.elim
 |_::_,_::_,[],_,_,h=>h.elim
theorem Eb{w':World}{n:Nat}{I:List TypeId}{vs:List Value}{ds:List (DataW H)}{ps:List MemPlace}(hs:IS P n I=true)(h:DataW.TrodAll enc P w base (λ_=>true) held I vs ds ps)(g:ak w w'):
 DataW.TrodAll enc P w' base (λb=>decide (b<w.heap.size)) held I vs ds ps:=
 ue (uc (λb hb=>by simpa using hb) hs h) λp hp=>g.below.same (DataW.TrodAll.lt h p hp)
end
