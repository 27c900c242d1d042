/- Sorting by swaps, plain. -/
import Derived.Test.YtbdghpjnifjlmaaGreatGenCert
import Derived.Shelf.SlSortCmp.NoneTotal
import Derived.Test.YtbdghpjnifjlmaaGreatHeapA
import Derived.Test.YtbdghpjnifjlmaaGreatFwRead
abbrev Go.Lit.i(x:Int):Go.Lit:=.int .i64 x
set_option linter.all false
namespace Go.SoP
def wJ(l:List Int)(i j:Nat):List Int:=(l.set i (l.getD j 0)).set j (l.getD i 0)
theorem vY(l:List Int)(i j:Nat):(wJ l i j).length=l.length:=by simp[wJ]
theorem kD{l:List Int}{i j:Nat}{x:Int}(hi:i<l.length):(l.set i x).getD j 0=if j=i then x else l.getD j 0:=by
 simp only[vx,Xe];by_cases h:j=i
 .subst h;simp[hi]
 .rw [r8 (λe=>h e.symm),r8 h]
theorem nK{l:List Int}{i j:Nat}(hi:i<l.length)(I:j<l.length)(k:Nat):(wJ l i j).getD k 0=if k=j then l.getD i 0 else if k=i then l.getD j 0 else l.getD k 0:=by
 unfold wJ;rw[kD (by simpa using I),kD hi]
theorem zN{l:List Int}{i j:Nat}(hi:i<l.length)(I:j<l.length):(wJ l i j).Perm l:=by
 rw[List.perm_iff_count];intro x;unfold wJ;rw[List.count_set (by simpa using I),List.count_set hi];have O:l[i]=l.getD i 0:=by simp[List.getD,hi]
 have Q:(l.set i (l.getD j 0))[j]'(by simpa using I)=if i=j then l.getD j 0 else l.getD j 0:=by
  rw[List.getElem_set];split
  .rfl
  .simp [List.getD,I]
 rw[O,Q];have U:l.getD i 0=x->0<List.count x l:=λh=>List.count_pos_iff.2 (by rw[<- h];simp[List.getD,hi]);have V:l.getD j 0=x->0<List.count x l:=λh=>List.count_pos_iff.2 (by rw[<- h];simp[List.getD,I]);simp only[ite_self];by_cases h1:l.getD i 0=x<;>by_cases J:l.getD j 0=x<;>simp only[h1,J,beq_self_eq_true,I5,J8,I8]<;> (first|omega| (have:=U h1;omega)| (have:=V J;omega))
section
variable(c:Int->Int->Int)
def Le(x y:Int):Prop:= ¬c y x<0
structure Ord:Prop where
 Pm:∀ {x y},c x y<0->¬c y x<0
 trans:∀ {x y z},Le c x y->Le c y z->Le c x z
def uV(l:List Int)(a b:Nat):Prop:=∀i j,a<=i->i<j->j<b->Le c (l.getD i 0) (l.getD j 0)
end
variable{c:Int->Int->Int}
theorem Ord.lt{x y:Int}(o:Ord c)(h:c x y<0):Le c x y:=o.Pm h
theorem Ord.rfl{x:Int}(o:Ord c):Le c x x:=λh=>o.Pm h h
theorem Ord.MX{x y z:Int}(o:Ord c)(h:c x y<0)(k:Le c y z):c x z<0:=by
 by_cases e:c x z<0
 .exact e
 .exact absurd h (o.trans k e)
theorem Ord.UR{x y z:Int}(o:Ord c)(h:Le c x y)(k:c y z<0):c x z<0:=by
 by_cases e:c x z<0
 .exact e
 .exact absurd k (o.trans e h)
end Go.SoP
namespace Go.Proofs.YtbdghpjnifjlmaaGreat.W
open Go
section
def Uj:Go.Shelf.Ren:=⟨λ|6=>179|15=>205|14=>210|28=>214|29=>215|20=>217|21=>218|22=>219|23=>220|24=>221|25=>222|26=>223|27=>224|46=>225|47=>226|48=>227|49=>228|50=>229|57=>230|n=>n,λ|22=>25|24=>3|25=>211|3=>3|39=>55|0=>0|53=>240|55=>242|4=>4|46=>245|45=>244|50=>163|5=>5|9=>9|66=>250|70=>254|76=>256|77=>257|n=>n,id⟩
end
section
open Go.Fw Go.RowKit Go.SoP
abbrev Bk(p:sn):Nat->Prop:=λb=>aF p=some b
theorem wN{x:Int}{i:Nat}(h:x=i:=by omega)(hb:i<9223372036854775808:=by omega):IntKind.i64.wrap x=i:=by
 subst h;exact ao (by omega) (by omega)
theorem QF{P:Program}{n:FuncId}{B:Func}(h1:((P.funcs[n]?.getD B).name== "runtime.NumGoroutine")=false)(I:P.funcs[n]? =some {B with name:=(P.funcs[n]?.getD B).name}):Bears P n B:=⟨_,h1,I⟩
theorem UW:SlLaysF.n6 Tryz.prog Uj:=by
 constructor;all_goals first|kernel_rfl| (intro w;kernel_rfl)|exact QF (by kernel_rfl) (by kernel_rfl)
def xZ(w w':World):Prop:=∃q os,w'=Sort.grow (w.drewN q) os
theorem xZ.refl(w:World):xZ w w:=⟨0,#[],by simp[Sort.grow,World.drewN]⟩
theorem xZ.trans{a b c:World}(h:xZ a b)(k:xZ b c):xZ a c:=by
 obtain⟨q,os,rfl⟩:=h;obtain⟨J,I,rfl⟩:=k;exact⟨q+J,os++I,by unfold Sort.grow World.drewN;simp only[Array.append_assoc,Ye]⟩
theorem xZ.drew{a b:World}(h:xZ a b):xZ a b.drew:=h.trans ⟨1,#[],by rw[Sort.grow_empty];rfl⟩
theorem xZ.grow{a b:World}(h:xZ a b):ak a b:=by
 obtain⟨q,os,rfl⟩:=h;refine⟨rfl,rfl,rfl,by simp[Sort.grow,World.drewN],λk I _=>?_⟩;show (a.heap++os)[k]? =_;rw[Xc I]
structure Cx(w0:World)(p:sn)(n:Nat)(l0:List Int)(fid:FuncId)(fv:Array Value)(cf:Int->Int->Int):Prop where
 hn:n=l0.length
 hm:n<=1152921504606846976
 he:f_ Tryz.prog fid=true
 hf:∀x∈l0,∀y∈l0,∀w,aE (Bk p) w0 w->Calls Tryz.prog fid (#[]++ #[.i x,.i y]++fv) w λe w2=>e=.returned (.i (cf x y))/\xZ w w2
 o:Ord cf
variable{w0 w:World}{p:sn}{n c:Nat}{l0 l:List Int}{fid:FuncId}{fv:Array Value}{cf:Int->Int->Int}
theorem An{P:Program}{g:FuncId}(h:f_ P g=true)(J:Array Value)(w:World):(callFunc g J).run P w=.ok (.enter g J) w:=by
 unfold f_ at h;unfold callFunc;simp only[Sem.run_bind,run_program,Result.andThen_ok];split at h
 .rename_i fn I;simp only[ts,ZH,J5]at h;simp only[I];have h1:(fn.name== "runtime.NumGoroutine")=false:=by simpa using h.2
  have O:fn.body.isNone=false:=by cases Q:fn.body<;>simp_all
  simp[h1,O]
 .simp at h
theorem Jv{α:Type}[Inhabited α](enc:α->Value)(w:World)(b m:Nat)(d:Array α)(os:Array Obj):aE (λk=>k=b) w (sortWorld enc w b 0 m d os):=by
 refine⟨rfl,rfl,rfl,?_,λk J I=>?_⟩
 .simp [sortWorld,Sort.grow,Sort.putRow,Sort.mapBlock,Sort.ahead]
 .show ((w.heap.modify b _)++os)[k]? =_;rw[Xc (by simpa using J),Y7,r8 λe=>I e.symm]
theorem D0(X:Cx w p n l fid fv cf)(h:d_ aB w p c l):
 Calls Tryz.prog 179 #[.slice p n c,.func (.func fid) #[] fv] w λe w'=>e=.returned (.tuple #[])/\∃l',d_ aB w' p c l'/\aE (Bk p) w w'/\l'.Perm l/\uV cf l' 0 l'.length:=by
 rcases Wt l.length with V|V
 .have hn:n=0:=by rw[X.hn,V]
  subst hn;refine(AnyF.slices_SortFunc_none (P:=Tryz.prog) (ρ:=Uj) {UW with} p c _ w).mono ?_;rintro e w'⟨rfl,rfl⟩;exact⟨rfl,l,h,aE.refl _,.refl l,λi j _ _ I=>by omega⟩
 .rcases h.un with⟨_,_,e⟩| ⟨b,cur,rfl,hb,h1,Z,h3,h4⟩
  .rw [e]at V;simp at V
  .haveI:Inhabited {x:Int // x∈l}:=⟨⟨l[0],XF V⟩⟩
   obtain⟨d,hd⟩: ∃d:Array {x:Int // x∈l},d=l.attach.toArray:=⟨_,rfl⟩
   have ds:d.size=n:=by rw[hd,X.hn];simp
   have aa:∀j (I:j<l.length),(d[j]!).1=l[j]:=λj I=>by
    have:j<d.size:=by rw[ds,X.hn];exact I
    rw[getElem!_pos d j this];simp[hd]
   have aT:=X.hm;have ap:Go.Sort.SWO (Go.Proofs.ltOf λa b: {x:Int // x∈l}=>cf a.1 b.1):=by
    refine⟨λx=>?_,λx y z h1 Z=>?_,λx y z h1 Z=>?_⟩
    .exact x9 X.o.rfl
    .simp only[ltOf,x7]at*
     exact X.o.MX h1 (X.o.lt Z)
    .simp only[ltOf,x8]at*
     exact X.o.trans Z h1
   have key:=Any.slices_SortFunc UW (λa: {x:Int // x∈l}=>Value.int .i64 a.1) (λ_=>rfl) (λa b=>cf a.1 b.1) ap fid fv b 0 c d w (An X.he)
    (λm os dk _ x y=>?_) (λj I=>?_) ?_ (by omega)
   .rw [ds]at key;refine key.mono ?_;rintro e w'⟨rfl,J,m,os,hp,hs,rfl⟩;obtain⟨q1,q2,q3⟩:=hp;have Q:J.size=n:=by rw[q1,ds]
    have O:∀a:Array {x:Int // x∈l},a.size=n->(a.extract 0 n).toList=a.toList:=λa ha=>by
     rw[<- ha];simp
    rw[O _ Q,O _ ds]at q3;have Y:(J.toList.map (·.1)).length=n:=by simp[Q]
    have U:(J.toList.map (·.1)).Perm l:=by
     have:=q3.map (·.1);rw[hd]at this;simpa using this
    have gd:∀i,i<n->(J.toList.map (·.1)).getD i 0=(J[i]!).1:=λi hi=>by
     have:i<J.size:=by omega
     rw[getElem!_pos J i this];simp[List.getD,this]
    refine⟨rfl,J.toList.map (·.1),?_,(Jv _ w b m J os).mono λk _ (e:k=b)=>by rw[e];rfl,U,λi j hi an I=>?_⟩
    .refine Ow.da (cur:=Sort.putCells (λa: {x:Int // x∈l}=>Value.int .i64 a.1) 0 J cur) ?_ (by rw[Y,X.hn];exact h1) Z ?_ ?_
     .show ((w.heap.modify b _)++os)[b]? =_;have ac:b<w.heap.size:=h.lt b rfl;rw[Xc (by simpa using ac),Y7,v8 rfl,hb];rfl
     .unfold Sort.putCells;simp[h3]
     .refine XC ?_ λj j1 j2=>?_
      .unfold Sort.putCells;simp[h3,Q];rw[X.hn];exact WK h1
      .have I:j<n:=by simpa[Q]using j2
       unfold Sort.putCells;have ay:j<J.size:=by omega
       simp[Q,I]
    .rw [Y]at I;rw[gd i (by omega),gd j I];have:=hs i j hi an I;simpa[ltOf,Le]using this
   .refine (X.hf x.1 x.2 y.1 y.2 _ ((Jv _ w b m dk os).mono λk _ (e:k=b)=>by rw[e];rfl)).mono ?_;rintro e w2⟨rfl,g⟩;exact⟨rfl,g⟩
   .rw [ds,X.hn]at I;obtain⟨g,e,hc⟩:=h.cell I;simp only[Wu,Addr.mk.injEq]at e;obtain⟨rfl,_,_⟩:=e;refine⟨?_,tN (cs:=cur) ⟨_,hb⟩⟩;show w.cell? _=some (.i (d[j]!).1);rw[aa j I,Wr];exact hc
   .exact h.lt b rfl
end
end Go.Proofs.YtbdghpjnifjlmaaGreat.W
namespace Go.LiP
open Go.SoP
def am(l:Int):Int:=if l<0 then -l else l
def tT(a b:Int):Int:=if am a≠am b then am a - am b else b - a
theorem vS:Ord tT:=by
 constructor
 .intro x y h;unfold tT am at*
  split at h<;>split<;> (try split at h)<;> (try split)<;> (try split at h)<;> (try split)<;>omega
 .intro x y z h1 I;unfold Le tT at*
  have O:am x=x\/am x= -x:=by unfold am;split<;>simp
  generalize am x=U at*
  generalize am y=Q at*
  generalize am z=J at*
  split at h1<;>split at I<;>split<;>omega
theorem P7(a b:Int)(h:a≠b):tT a b<0\/tT b a<0:=by
 unfold tT;split<;>split<;>omega
theorem C5{a b:Int}(h:Le tT a b)(I:a≠b):tT a b<0:=by
 rcases P7 a b I with J|J
 .exact J
 .exact absurd J h
theorem Ck{a b c:Int}(h1:tT a b<0)(I:tT b c<0):tT a c<0:=vS.MX h1 (vS.lt I)
theorem tx(a:Int): ¬tT a a<0:=by unfold tT;simp
abbrev mh(m:List Int):Prop:=m.Pairwise λa b=>tT a b<0
structure Ts(c m:List Int):Prop where
 mem:∀x,x∈m↔x∈c
 st:mh m
theorem C9:∀ {m k:List Int},mh m->mh k->(∀x,x∈m↔x∈k)->m=k
 | [],[],_,_,_=>rfl
 | [],y::k,_,_,h=>by have:=(h y).2 (by simp);simp at this
 |x::m,[],_,_,h=>by have:=(h x).1 (by simp);simp at this
 |x::m,y::k,h1,I,h=>by
  have h1:=XA.1 h1;have I:=XA.1 I;have e:x=y:=by
   rcases V'.1 ((h x).1 (by simp)) with e|e
   .exact e
   .rcases V'.1 ((h y).2 (by simp)) with O|O
    .exact O.symm
    .exact absurd (Ck (h1.1 y O) (I.1 x e)) (tx x)
  subst e;congr 1;refine C9 h1.2 I.2 λz=>?_;constructor
  .intro J;rcases V'.1 ((h z).1 (xk _ J)) with e|e
   .subst e;exact absurd (h1.1 z J) (tx z)
   .exact e
  .intro J;rcases V'.1 ((h z).2 (xk _ J)) with e|e
   .subst e;exact absurd (I.1 z J) (tx z)
   .exact e
theorem Ts.HY{c m k:List Int}(h:Ts c m)(g:Ts c k):m=k:=C9 h.st g.st λx=> (h.mem x).trans (g.mem x).symm
def yZ(l:List Int):Nat->List Int
 |0=> []
 |k+1=>if 0<k/\l.getD k 0=l.getD (k - 1) 0 then yZ l k else yZ l k++ [l.getD k 0]
theorem DL{l:List Int}:∀ {k:Nat},k<=l.length->∀x,x∈yZ l k↔∃j,j<k/\l.getD j 0=x
 |0,_,x=>by simp[yZ]
 |k+1,h,x=>by
  have O:=DL (l:=l) (k:=k) (by omega) x;unfold yZ;split
  .rename_i Q;rw[O];constructor
   .rintro ⟨j,J,I⟩;exact⟨j,by omega,I⟩
   .rintro ⟨j,J,I⟩;by_cases e:j=k
    .subst e;exact⟨j - 1,by omega,by rw[<- Q.2];exact I⟩
    .exact ⟨j,by omega,I⟩
  .rw [y4,O,xv];constructor
   .rintro (⟨j,J,I⟩|e)
    .exact ⟨j,by omega,I⟩
    .exact ⟨k,by omega,e.symm⟩
   .rintro ⟨j,J,I⟩;by_cases e:j=k
    .subst e;exact .inr I.symm
    .exact .inl ⟨j,by omega,I⟩
theorem Bm{l:List Int}(h:uV tT l 0 l.length):∀ {k:Nat},k<=l.length->mh (yZ l k)
 |0,_=>List.Pairwise.nil
 |k+1,hk=>by
  have J:=Bm h (k:=k) (by omega);unfold yZ;split
  .exact J
  .rename_i Q;rw[mh,YJ];refine⟨J,List.pairwise_singleton _ _,λx U y O=>?_⟩;rw[xv]at O;subst O;obtain⟨j,V,rfl⟩:=(DL (by omega) x).1 U;have I:tT (l.getD (k - 1) 0) (l.getD k 0)<0:=C5 (h (k - 1) k (by omega) (by omega) (by omega)) λe=>Q ⟨by omega,e.symm⟩;by_cases e:j=k - 1
   .rw [e];exact I
   .exact vS.UR (h j (k - 1) (by omega) (by omega) (by omega)) I
theorem uZ{l:List Int}:∀ {k:Nat},k<=l.length->(∀j,0<j->j<k->l.getD j 0≠l.getD (j - 1) 0)->yZ l k=l.take k
 |0,_,_=>by simp[yZ]
 |k+1,h,hc=>by
  unfold yZ;rw[r8 (λe=>hc k e.1 (by omega) e.2),uZ (k:=k) (by omega) (λj I J=>hc j I (by omega)),Wo];have:l[k]? =some (l.getD k 0):=by simp[List.getD,show k<l.length by omega]
  rw[this];rfl
theorem Qs{c l:List Int}(hp:l.Perm c)(h:uV tT l 0 l.length):Ts c (yZ l l.length):=by
 refine⟨λx=>?_,Bm h (vy _)⟩;rw[DL (vy _),<- hp.mem_iff];constructor
 .rintro ⟨j,I,rfl⟩;simp[List.getD,I]
 .intro J;obtain⟨j,I,e⟩:=Bs.1 J;exact⟨j,I,by simp[List.getD,I,e]⟩
def nF:List Int->Int->Nat
 | [],_=>0
 |y::m,x=>if tT y x<0 then nF m x+1 else 0
theorem I_:∀ (m:List Int) (x:Int),nF m x<=m.length
 | [],_=>vy _
 |y::m,x=>by
  unfold nF;split
  .simp;exact I_ m x
  .exact xc _
theorem IF:∀ {m:List Int} {x:Int} {j:Nat},j<nF m x->tT (m.getD j 0) x<0
 | [],_,_,h=>by simp[nF]at h
 |y::m,x,j,h=>by
  unfold nF at h;split at h
  .rename_i I;cases j with
   |zero=>exact I
   |succ j=>simpa[List.getD]using IF (m:=m) (x:=x) (j:=j) (by omega)
  .omega
theorem CX:∀ {m:List Int} {x:Int},nF m x<m.length->¬tT (m.getD (nF m x) 0) x<0
 | [],_,h=>by simp at h
 |y::m,x,h=>by
  unfold nF at h ⊢;split
  .rename_i I;rw[v8 I]at h;have:=CX (m:=m) (x:=x) (by simpa using h);simpa[List.getD]using this
  .rename_i I;exact I
def KN(m:List Int)(x:Int):List Int:=m.take (nF m x)++ [x]++m.drop (nF m x)
theorem LB{m:List Int}{x y:Int}:y∈KN m x↔y∈m\/y=x:=by
 have:y∈m↔y∈m.take (nF m x)\/y∈m.drop (nF m x):=by rw[<- y4,WN]
 unfold KN;rw[y4,y4,xv,this];constructor
 .rintro ((h|h)|h)
  .exact .inl (.inl h)
  .exact .inr h
  .exact .inl (.inr h)
 .rintro ((h|h)|h)
  .exact .inl (.inl h)
  .exact .inr h
  .exact .inl (.inr h)
theorem Gb{m:List Int}{x:Int}(h:mh m)(Y:x ∉ m):mh (KN m x):=by
 have hs:mh (m.take (nF m x)++m.drop (nF m x)):=by rw[WN];exact h
 rw[mh,YJ]at hs;have lo:∀y∈m.take (nF m x),tT y x<0:=by
  intro y I;obtain⟨j,U,rfl⟩:=Bs.1 I;rw[y6]at U;have:=IF (m:=m) (x:=x) (j:=j) (by omega);rw[XP];simpa[List.getD,show j<m.length by omega]using this
 have hi:∀y∈m.drop (nF m x),tT x y<0:=by
  intro y I;obtain⟨j,U,rfl⟩:=Bs.1 I;rw[WD]at U;have Q:=CX (m:=m) (x:=x) (by omega);have V:m.getD (nF m x) 0∈m:=by simp[List.getD,show nF m x<m.length by omega]
  have X:tT x (m.getD (nF m x) 0)<0:=C5 Q λe=>Y (by rw[e];exact V);rw[Y0];have J:tT x (m[nF m x]'(by omega))<0:=by simpa[List.getD,show nF m x<m.length by omega]using X
  rcases Wt j with e|e
  .subst e;exact J
  .exact Ck J (Wy.1 h (nF m x) (nF m x+j) (by omega) (by omega) (by omega))
 unfold KN;rw[mh,WH,YJ];refine⟨hs.1,?_,λy I z O=>?_⟩
 .rw [List.singleton_append,XA];exact⟨hi,hs.2.1⟩
 .rw [List.singleton_append,V']at O;rcases O with rfl|O
  .exact lo y I
  .exact hs.2.2 y I z O
def BV(c:List Int):Nat->List Int
 |0=> []
 |k+1=>if c.getD k 0∈BV c k then BV c k else KN (BV c k) (c.getD k 0)
def bC(c:List Int):List Int:=BV c c.length
theorem FA{c:List Int}:∀ {k:Nat},k<=c.length->Ts (c.take k) (BV c k)
 |0,_=>⟨λx=>by simp[BV],List.Pairwise.nil⟩
 |k+1,hk=>by
  have J:=FA (c:=c) (k:=k) (by omega);have O:c.take (k+1)=c.take k++ [c.getD k 0]:=by
   rw[Wo];have:c[k]? =some (c.getD k 0):=by simp[List.getD,show k<c.length by omega]
   rw[this];rfl
  unfold BV;split
  .rename_i I;refine⟨λx=>?_,J.st⟩;rw[J.mem,O,y4,xv];constructor
   .exact .inl
   .rintro (h|h)
    .exact h
    .rw [h,<- J.mem];exact I
  .rename_i I;refine⟨λx=>?_,Gb J.st I⟩;rw[LB,J.mem,O,y4,xv]
theorem c_(c:List Int):Ts c (bC c):=by
 have:=FA (c:=c) (vy _)
 rwa [L0]at this
theorem vk{c:List Int}:∀k,(BV c k).length<=k
 |0=>vy _
 |k+1=>by
  have I:=vk (c:=c) k;unfold BV;split
  .omega
  .unfold KN;have:=I_ (BV c k) (c.getD k 0);simp;omega
theorem sM(c:List Int):(bC c).length<=c.length:=vk _
def nh(c:List Int):Bool:=c.any λx=>c.contains (-x)
theorem Nz{c m:List Int}(h:Ts c m)(nz:∀x∈c,x≠0):nh c=true↔∃i,0<i/\i<m.length/\m.getD i 0= -(m.getD (i - 1) 0):=by
 have mem_of:∀j,j<m.length->m.getD j 0∈c:=λj J=> (h.mem _).1 (by simp[List.getD,J]);have I:∀i j,i<j->j<m.length->tT (m.getD i 0) (m.getD j 0)<0:=λi j Q J=>by
  have:=Wy.1 h.st i j (by omega) J Q;simpa[List.getD,show i<m.length by omega,J]using this
 unfold nh;rw[Xk];constructor
 .rintro ⟨x,X,O⟩;have O: -x∈c:=by simpa using O
  have key:∀x:Int,0<x->x∈c-> -x∈c->∃i,0<i/\i<m.length/\m.getD i 0= -(m.getD (i - 1) 0):=by
   intro x h0 X O;obtain⟨i,hi,U⟩:=Bs.1 ((h.mem x).2 X);obtain⟨j,J,V⟩:=Bs.1 ((h.mem (-x)).2 O);have U:m.getD i 0=x:=by simp[List.getD,hi,U]
   have V:m.getD j 0= -x:=by simp[List.getD,J,V]
   have Z:tT x (-x)<0:=by unfold tT am;split<;>split<;>split<;>omega
   have Q:i<j:=by
    rcases YG i j with e|e|e
    .exact e
    .subst e;omega
    .have:=I j i e hi;rw[U,V]at this;exact absurd Z (vS.Pm this)
   have Y:j=i+1:=by
    rcases Wp (i+1) j with e|e
    .have a1:=I i (i+1) (by omega) (by omega);have a2:=I (i+1) j e J;rw[U]at a1;rw[V]at a2;generalize m.getD (i+1) 0=z at a1 a2;unfold tT am at a1 a2;split at a1<;>split at a2<;> (try split at a1)<;> (try split at a2)<;> (try split at a1)<;> (try split at a2)<;>omega
    .omega
   exact⟨j,by omega,J,by rw[V,Y,Xy,U]⟩
  rcases Zk 0 x with e|e
  .exact key x e X O
  .have:=nz x X;exact key (-x) (by omega) O (by rwa [WJ])
 .rintro ⟨i,h1,h2,h3⟩;refine⟨m.getD (i - 1) 0,mem_of _ (by omega),?_⟩;rw[<- h3];simpa using mem_of i h2
end Go.LiP
namespace Go.Fw
open Go Go.RowKit
variable{P:Program}{α:Type}{f:α->Value}{T:TypeId}{w w':World}{p q:sn}{c:Nat}{l:List α}
theorem ee{S:Nat->Prop}{a:Addr}{v:Value}(g:aE S w w')(h:w.cell? a=some v)(hs: ¬S a.block):w'.cell? a=some v:=by
 have hb:=World.block_lt_of_cell? w a h;rw[<- h];exact World.cell?_of_block (g.block a.block hb hs)
def Vw(f:α->Value)(w:World)(p:sn)(l:List α):Prop:=∀j (I:j<l.length),∃a,p=some a/\w.cell? (a.add j)=some (f l[j])
theorem cV(a:Addr)(n:Nat):(a.add n).block=a.block:=by unfold Addr.add;split<;>rfl
theorem Vw.keep{S:Nat->Prop}(h:Vw f w p l)(m:aE S w w')(hs:∀b,aF p=some b->¬S b):Vw f w' p l:=by
 intro j I;obtain⟨a,rfl,J⟩:=h j I;exact⟨a,rfl,ee m J (by rw[cV];exact hs _ rfl)⟩
theorem Vw.grow(h:Vw f w p l)(m:ak w w'):Vw f w' p l:=h.keep m λ_ _=>id
theorem Vw.drew(h:Vw f w p l):Vw f w.drew p l:=h
theorem Vw.nil:Vw f w p []:=λj I=>by simp at I
theorem Vw.lt(h:Vw f w p l)(hl:l≠[]):∀b,aF p=some b->b<w.heap.size:=by
 intro b hb;obtain⟨a,rfl,I⟩:=h 0 (Wx.2 hl);have:=World.block_lt_of_cell? w _ I;rw[cV]at this;simp[aF]at hb;omega
theorem Ow.vw(h:Ow f T w p c l):Vw f w p l:=by
 intro j I;obtain⟨g,rfl,J⟩:=h.cell I;exact⟨_,rfl,by rw[cA,Wr];exact J⟩
theorem Vw.ix(h:Vw f w p l){i:Int}{n:Nat}(d:α)(J:0<=i)(hn:n=l.length)(h1:i<n){K:Addr->Prop}(I:∀a,w.cell? a=some (f (l.getD i.toNat d))->K a):aV p n i 1 K:=by
 subst hn;obtain⟨a,rfl,O⟩:=h i.toNat (by omega);refine⟨_,rfl,J,h1,I _ ?_⟩;rw[XZ,O];simp[List.getD,show i.toNat<l.length by omega]
theorem Vw.VH(h:Vw f w p l){i:Int}{n:Nat}(d:α)(J:0<=i)(hn:n=l.length)(h1:i<n){K:Addr->Prop}(I:∀a,aF p=some a.block->w.cell? a=some (f (l.getD i.toNat d))->K a):aV p n i 1 K:=by
 subst hn;obtain⟨a,rfl,O⟩:=h i.toNat (by omega);refine⟨_,rfl,J,h1,I _ (by rw[cV];rfl) ?_⟩;rw[XZ,O];simp[List.getD,show i.toNat<l.length by omega]
theorem vI(a:Addr)(m n:Nat):(a.add m).add n=a.add (m+n):=by
 unfold Addr.add;by_cases h1:m=0<;>by_cases I:n=0<;>simp[h1,I,Ye]
theorem Vw.part(h:Vw f w p l){i m:Nat}(h1:i+m<=l.length):Vw f w (p.map (·.add (i*1))) ((l.drop i).take m):=by
 intro j I;simp only[y6,WD]at I;obtain⟨a,rfl,J⟩:=h (i+j) (by omega);refine⟨_,rfl,?_⟩;rw[XZ,vI,J];simp
theorem Ow.uv{t ty e bytes:Nat}(hs:mg P t e bytes=true)(h:Ow f e w p c l){c2:Nat}{news:List α}(Q:Vw f w q news){n m:Nat}(hn:n=l.length)(hm:m=news.length)(Z:∀x,(f x).oneCell'=true)
 (hlen:(l.length+news.length)* (bytes+1)<=140737488355328) {K:World->sn->Nat->Nat->Prop}
 (U:∀w' I c',Ow f e w' I c' (l++news)->aE (λb=>aF p=some b) w w'->(I=p\/I=some ⟨w.heap.size,0,none⟩)->w.heap.size<=w'.heap.size->K w' I (l++news).length c'):
 ∃w',∃I n' c',(Builtin.append_ #[t,t] ty #[.slice p n c,.slice q m c2]).run P w=.ok (.slice I n' c') w'/\K w' I n' c':=by
 subst hm;rcases Wt news.length with O|O
 .have:news= []:=Wa O;subst this;refine⟨w,p,n,c,h.Sn hs hn,?_⟩;have:=U w p c (by simpa using h) (aE.refl w) (.inl rfl) (vy _);simpa[hn]using this
 .obtain ⟨g,Y,_⟩:=Q 0 O;subst Y;refine Ow.nu hs h hn news rfl O (λj X=>?_) Z hlen U;obtain⟨g',J,V⟩:=Q j X;simp only[Wu]at J;subst J;exact V
theorem Iu{v:Value}(h:O' w (.sl (.int .i64)) v):∃p n c l,v=.slice p n c/\n=l.length/\n<=c/\c<=maxLen/\Vw sT w p l/\∀x∈l,(Lit.int .i64 x).wf=true:=by
 rcases h with rfl| ⟨a,len,cap,rfl,h1,O,V⟩
 .exact ⟨none,0,0,[],rfl,rfl,vy _,xc _,Vw.nil,by simp⟩
 .have:∀i,∃x:Int,(i<len->w.cell? (a.add i)=some (.i x))/\(Lit.int .i64 x).wf=true:=by
   intro i;by_cases hi:i<len
   .obtain ⟨X,_,Q,x,rfl,I⟩:=V i hi;refine⟨x,λ_=>?_,I⟩;have:=Q.1
    rwa [show Sh.size (.int .i64)=1 from rfl,XZ,show (a.add i).add 0=a.add i by rw[vI,XN]]at this
   .exact ⟨0,λh=>absurd h hi,by decide⟩
  refine⟨some a,len,cap,(List.range len).map λi=>Classical.choose (this i),rfl,by simp,h1,O,λj U=>⟨a,rfl,?_⟩,?_⟩
  .have J:j<len:=by simpa using U
   rw[(Yk (this j)).1 J];simp
  .intro x I;simp only[LV,Wv]at I;obtain⟨i,_,rfl⟩:=I;exact(Yk (this i)).2
end Go.Fw
namespace Go.Proofs.YtbdghpjnifjlmaaGreat.W
open Go Go.Fw Go.RowKit
open Go.Proofs.Tryz (prog)
section
theorem kY{l:List Int}{t:Nat}(h:t<l.length)(d:Int):l.getD t d∈l:=by
 simp[List.getD,h]
theorem D5{p:sn}{n c:Nat}{l:List Int}{w:World}(h:Vw sT w p l)(hn:n=l.length)(hm:n<=maxLen){fid:FuncId}{fv:Array Value}(he:f_ prog fid=true)(pr:Int->Bool)
 (hf:∀x∈l,∀w',ak w w'->Calls prog fid (#[]++ #[.i x]++fv) w' λe w2=>e=.returned (.bool (pr x))/\ak w' w2):
 Calls prog 93 #[.slice p n c,.func (.func fid) #[] fv] w λe w'=> (∃r:Int,e=.returned (.i r)/\decide (r>=0)=l.any pr)/\ak w w':=by
 refine bS.aj ?_;unfold maxLen at hm;refine⟨λv w' k=>∃t:Nat,v=t/\t<=l.length/\k+t=l.length/\(l.take t).any pr=false/\ak w w',⟨l.length,0,rfl,by omega,rfl,rfl,aE.refl w⟩,?_⟩;rintro v O k _⟨t,rfl,ht,Q,ha,G⟩;refine ah (λq=>?_) (λq=>?_)<;>simp only[x7,x8]at q
 .have I:t<l.length:=by omega
  refine(h.grow G).ix 0 (by omega) hn q λa e=>?_;refine⟨_,e,?_⟩;rw[he];show Calls _ _ _ _ _;rw[tn];refine(hf _ (kY I 0) O G).mono ?_;rintro e U⟨rfl,J⟩;refine⟨_,rfl,ah (λs=>?_) (λs=>?_)⟩
  .refine ⟨⟨(t:Int),rfl,?_⟩,G.trans J⟩;rw[I4 (by omega:(t:Int)>=0)];exact(Xk.2 ⟨_,kY I 0,s⟩).symm
  .refine ⟨k - 1,by omega,t+1,?_,by omega,by omega,?_,G.trans J⟩
   .rw [ao (by omega) (by omega)];omega
   .rw [Wo,ZC,ha];have:l[t]? =some (l.getD t 0):=by simp[List.getD,I]
    simp only[this,Xn,Yd,Zz,s,XJ]
 .refine ⟨⟨-1,rfl,?_⟩,G⟩;have:t=l.length:=by omega
  subst this;rw[L0]at ha;rw[ha];rfl
theorem fS{p:sn}{n c:Nat}{l:List Int}{w:World}(h:Vw sT w p l)(hn:n=l.length)(hm:n<=maxLen){fid:FuncId}{fv:Array Value}(he:f_ prog fid=true)(pr:Int->Bool)
 (hf:∀x∈l,∀w',ak w w'->Calls prog fid (#[]++ #[.i x]++fv) w' λe w2=>e=.returned (.bool (pr x))/\ak w' w2):
 Calls prog 50 #[.slice p n c,.func (.func fid) #[] fv] w λe w'=>e=.returned (.bool (l.any pr))/\ak w w':=by
 refine bR.aj ?_;refine(D5 h hn hm he pr hf).mono ?_;rintro e w'⟨⟨r,rfl,hr⟩,g⟩;exact⟨_,rfl,by rw[hr],g⟩
theorem O0(v:Value):(#[]++ #[v]++ #[]:Array Value)= #[v]:=by simp
end
section
def cC(l:Int):Bool:=decide (l≠0/\ -1048576<=l/\l<=1048576)
def jL(l:List Int):Bool:=l.all cC && decide (l.length<=4096)
theorem O1(l:Int)(w:World):Calls prog 92 #[.i l] w λe w'=>e=.returned (.bool (cC l))/\ak w w':=by
 refine Bl.aj ?_;refine ah (λh1=>ah (λI=>⟨?_,aE.refl w⟩) (λI=>⟨?_,aE.refl w⟩)) (λh1=>⟨?_,aE.refl w⟩)
 .simp only[ZH,J5,x7,I9]at h1 I;congr 2;unfold cC;exact decide_eq_decide.2 (by omega)
 .simp only[ZH,J5,x8,I9]at h1 I;congr 2;unfold cC;exact(x9 (by omega)).symm
 .simp only[bne_eq_false_iff_eq]at h1;congr 2;unfold cC;exact(x9 (by omega)).symm
theorem KW(l:Int)(w:World):Calls prog 91 #[.i l] w λe w'=>e=.returned (.bool (!cC l))/\ak w w':=by
 refine jf.aj ?_;refine(O1 l w).mono ?_;rintro e w'⟨rfl,g⟩;exact⟨_,rfl,rfl,g⟩
theorem Hq:f_ prog 91=true:=by kernel_rfl
theorem Px{l:List Int}:l.any (λx=> !cC x)= !l.all cC:=by
 induction l with
 |nil=>rfl
 |cons x l ih=>simp[ih]
theorem fW{p:sn}{n c:Nat}{l:List Int}{w:World}(h:Vw sT w p l)(hn:n=l.length)(hm:n<=maxLen):
 Calls prog 49 #[.slice p n c] w λe w'=>e=.returned (.i (if jL l then 0 else 1))/\ak w w':=by
 refine qN.aj ?_;refine ah (λq=>⟨?_,aE.refl w⟩) (λq=>?_)<;>simp only[x7,x8]at q
 .have:jL l=false:=by unfold jL;rw[x9 (by omega)];simp
  rw[this];rfl
 .have hf:∀x∈l,∀w',ak w w'->Calls prog 91 (#[]++ #[.i x]++ #[]) w' λe w2=>e=.returned (.bool (!cC x))/\ak w' w2:=λx _ w' _=>by
   rw[O0];exact KW x w'
  refine(fS h hn hm Hq (λx=> !cC x) hf).mono ?_;rintro e w'⟨rfl,g⟩;have:jL l=l.all cC:=by unfold jL;rw[I4 (by omega)];simp
  refine⟨_,rfl,?_⟩;rw[Px,this];cases l.all cC
  .exact ⟨rfl,g⟩
  .exact ⟨rfl,g⟩
end
end Go.Proofs.YtbdghpjnifjlmaaGreat.W
namespace Go.Fw
open Go Go.RowKit
section
variable{P:Program}{α:Type}{f:α->Value}{T T':TypeId}{w w':World}{p q:sn}{c:Nat}{l:List α}
structure Sl where
 p:sn
 n:Nat
 c:Nat
abbrev Sl.v(s:Sl):Value:=.slice s.p s.n s.c
def Sl.nil:Sl:=⟨none,0,0⟩
structure V2(f:α->Value)(w:World)(p:sn)(hs:List Sl)(rows:List (List α)):Prop where
 h:Vw Sl.v w p hs
 n:hs.length=rows.length
 r:∀j,j<rows.length->(hs.getD j Sl.nil).n=(rows.getD j []).length/\(hs.getD j Sl.nil).n<=maxLen/\Vw f w (hs.getD j Sl.nil).p (rows.getD j [])
def CR(p:sn)(hs:List Sl)(k:Nat):Prop:=aF p=some k\/∃h∈hs,aF h.p=some k
theorem V2.keep{S:Nat->Prop}{hs:List Sl}{rows:List (List α)}(h:V2 f w p hs rows)(m:aE S w w')(O:∀k,CR p hs k->¬S k):V2 f w' p hs rows:=by
 refine⟨h.h.keep m λk I=>O k (.inl I),h.n,λj J=>?_⟩;obtain⟨h1,Q,U⟩:=h.r j J;refine⟨h1,Q,U.keep m λk I=>O k (.inr ⟨_,?_,I⟩)⟩;have:j<hs.length:=by rw[h.n];exact J
 simp[List.getD,this]
theorem V2.grow{hs:List Sl}{rows:List (List α)}(h:V2 f w p hs rows)(m:ak w w'):V2 f w' p hs rows:=h.keep m λ_ _=>id
theorem V2.nil:V2 f w p [] []:=⟨Vw.nil,rfl,λj I=>by simp at I⟩
theorem V2.ix{hs:List Sl}{rows:List (List α)}(h:V2 f w p hs rows){i:Int}{n:Nat}(J:0<=i)(hn:n=rows.length)(h1:i<n){K:Addr->Prop}
 (I:∀a s,w.cell? a=some (.slice s.p s.n s.c)->s=hs.getD i.toNat Sl.nil->s.n=(rows.getD i.toNat []).length->s.n<=maxLen->Vw f w s.p (rows.getD i.toNat [])->K a):aV p n i 1 K:=by
 refine h.h.ix Sl.nil J (by rw[h.n];exact hn) h1 λa e=>?_;obtain⟨Q,U,O⟩:=h.r i.toNat (by omega);exact I a _ e rfl Q U O
theorem HH{s:Sh}{v:Value}(hr:∀v,O' w (.sl s) v->∃p n c l,v=.slice p n c/\n=l.length/\n<=c/\c<=maxLen/\Vw f w p l)(h:O' w (.sl (.sl s)) v):
 ∃p n c hs rows,v=.slice p n c/\n=rows.length/\n<=c/\c<=maxLen/\V2 f w p hs rows:=by
 rcases h with rfl| ⟨a,len,cap,rfl,h1,X,h3⟩
 .exact ⟨none,0,0,[],[],rfl,rfl,vy _,xc _,V2.nil⟩
 .have:∀i,∃x:Sl × List α,i<len->w.cell? (a.add i)=some x.1.v/\x.1.n=x.2.length/\x.1.n<=maxLen/\Vw f w x.1.p x.2:=by
   intro i;by_cases hi:i<len
   .obtain ⟨es,he,Y,U⟩:=h3 i hi;have hv:∃v,es= [v]/\O' w (.sl s) v:=by
     rcases U with rfl| ⟨a',Q,J,rfl,g⟩
     .exact ⟨_,rfl,.inl rfl⟩
     .exact ⟨_,rfl,.inr ⟨a',Q,J,rfl,g⟩⟩
    obtain⟨v,rfl,hv⟩:=hv;obtain⟨p,n,c,l,rfl,g1,Z,g3,g4⟩:=hr v hv;refine⟨(⟨p,n,c⟩,l),λ_=>⟨?_,g1,Wl Z g3,g4⟩⟩;have:=Y.1
    rwa [show Sh.size (.sl s)=1 from rfl,XZ,show (a.add i).add 0=a.add i by rw[vI,XN]]at this
   .exact ⟨(Sl.nil,[]),λh=>absurd h hi⟩
  have V:∀ {β:Type} (g:Nat->β) (d:β) (j:Nat),j<len->((List.range len).map g).getD j d=g j:=by
   intro β g d j O;simp[List.getD,O]
  refine⟨some a,len,cap,(List.range len).map λi=> (Classical.choose (this i)).1,(List.range len).map λi=> (Classical.choose (this i)).2,rfl,by simp,h1,X,⟨λj O=>⟨a,rfl,?_⟩,by simp,λj O=>?_⟩⟩
  .have I:j<len:=by simpa using O
   rw[(Yk (this j) I).1];simp
  .have I:j<len:=by simpa using O
   rw[V _ _ _ I,V _ _ _ I];exact(Yk (this j) I).2
theorem Gl{v:Value}(h:O' w (.sl (.int .i64)) v):∃p n c l,v=.slice p n c/\n=l.length/\n<=c/\c<=maxLen/\Vw sT w p l:=by
 obtain⟨p,n,c,l,h1,I,O,J,h5,_⟩:=Iu h;exact⟨p,n,c,l,h1,I,O,J,h5⟩
structure r_(f:α->Value)(T T':TypeId)(w:World)(p:sn)(c:Nat)(hs:List Sl)(rows:List (List α)):Prop where
 h:Ow Sl.v T w p c hs
 n:hs.length=rows.length
 r:∀j,j<rows.length->(hs.getD j Sl.nil).n=(rows.getD j []).length/\Ow f T' w (hs.getD j Sl.nil).p (hs.getD j Sl.nil).c (rows.getD j [])
 d0:∀j k,j<rows.length->aF (hs.getD j Sl.nil).p=some k->aF p≠some k
 d:∀i j k,i<rows.length->j<rows.length->i≠j->aF (hs.getD i Sl.nil).p=some k->aF (hs.getD j Sl.nil).p≠some k
theorem cw{hs:List Sl}{h:Sl}(hm:h∈hs):∃j,j<hs.length/\hs.getD j Sl.nil=h:=by
 obtain⟨j,I⟩:=XB hm;have hl:=(Ws.1 I).1;exact⟨j,hl,by simp[List.getD,I]⟩
theorem r_.v2{hs:List Sl}{rows:List (List α)}(h:r_ f T T' w p c hs rows):V2 f w p hs rows:=
 ⟨h.h.vw,h.n,λj J=>by
   obtain⟨h1,I⟩:=h.r j J;exact⟨h1,by rw[h1];exact I.cap,I.vw⟩⟩
theorem r_.keep{S:Nat->Prop}{hs:List Sl}{rows:List (List α)}(h:r_ f T T' w p c hs rows)(m:aE S w w')(O:∀k,CR p hs k->¬S k):r_ f T T' w' p c hs rows:=by
 refine⟨h.h.keep m λk I=>O k (.inl I),h.n,λj J=>?_,h.d0,h.d⟩;obtain⟨h1,Q⟩:=h.r j J;refine⟨h1,Q.keep m λk I=>O k (.inr ⟨_,?_,I⟩)⟩;have:j<hs.length:=by rw[h.n];exact J
 simp[List.getD,this]
theorem r_.grow{hs:List Sl}{rows:List (List α)}(h:r_ f T T' w p c hs rows)(m:ak w w'):r_ f T T' w' p c hs rows:=h.keep m λ_ _=>id
theorem r_.lt{hs:List Sl}{rows:List (List α)}(h:r_ f T T' w p c hs rows):∀k,CR p hs k->k<w.heap.size:=by
 rintro k (I| ⟨s,J,I⟩)
 .exact h.h.lt k I
 .obtain ⟨j,O,rfl⟩:=cw J;exact(h.r j (by rw[<- h.n];exact O)).2.lt k I
theorem vD{β:Type}{l:List β}{i j:Nat}{x d:β}(hi:i<l.length):(l.set i x).getD j d=if j=i then x else l.getD j d:=by
 simp only[vx,Xe];by_cases h:j=i
 .subst h;simp[hi]
 .rw [r8 (λe=>h e.symm),r8 h]
theorem wu{β:Type}{l:List β}{j:Nat}{x d:β}:(l++ [x]).getD j d=if j=l.length then x else l.getD j d:=by
 simp only[vx];by_cases h:j=l.length
 .subst h;simp
 .rw [r8 h];by_cases I:j<l.length
  .rw [Wd I]
  .rw [W6 (by simp;omega),W6 (by omega)]
theorem r_.jS{t ty bytes:Nat}(ac:mg P t T bytes=true){hs:List Sl}{rows:List (List α)}(h:r_ f T T' w p c hs rows){b n:Nat}{s:Sl}{x:List α}(hb:bO w b #[s.v])(hn:n=rows.length)(ho:Ow f T' w s.p s.c x)(Z:s.n=x.length)
 (Y:∀k,aF s.p=some k->¬CR p hs k) (hlen:(rows.length+1)* (bytes+1)<=140737488355328) {K:World->sn->Nat->Nat->Prop}
 (V:∀w' O c',r_ f T T' w' O c' (hs++ [s]) (rows++ [x])->aE (λb=>aF p=some b) w w'->(O=p\/O=some ⟨w.heap.size,0,none⟩)->w.heap.size<=w'.heap.size->K w' O (rows.length+1) c'):
 ∃w',∃O n' c',(Builtin.append_ #[t,t] ty #[.slice p n c,.slice (some ⟨b,0,none⟩) 1 1]).run P w=.ok (.slice O n' c') w'/\K w' O n' c':=by
 refine h.h.jS ac s hb rfl (by rw[h.n];exact hn) (λ_=>rfl) (by rw[h.n];exact hlen) λw' O c' o m hp ag=>?_;rw[h.n];refine V w' O c' ⟨o,by simp[h.n],λj J=>?_,λj k J I Q=>?_,λi j k hi J aa h1 U=>?_⟩ m hp ag
 .rw [wu,wu,h.n];by_cases e:j=rows.length
  .rw [v8 e,v8 e];exact⟨Z,ho.keep m λk V e=>Y k V (.inl e)⟩
  .rw [r8 e,r8 e];have J:j<rows.length:=by simp at J;omega
   exact⟨(h.r j J).1,(h.r j J).2.keep m λk V e=>h.d0 j k J V e⟩
 .rw [wu,h.n]at I;have ar:=h.lt;by_cases e:j=rows.length
  .rw [v8 e]at I;rcases hp with rfl|rfl
   .exact Y k I (.inl Q)
   .simp [aF]at Q;have:=ho.lt k I;omega
  .rw [r8 e]at I;have J:j<rows.length:=by simp at J;omega
   rcases hp with rfl|rfl
   .exact h.d0 j k J I Q
   .simp [aF]at Q;have:=(h.r j J).2.lt k I;omega
 .rw [wu,h.n]at h1 U;have hi:i<=rows.length:=by simp at hi;omega
  have J:j<=rows.length:=by simp at J;omega
  have mem:∀i,i<rows.length->hs.getD i Sl.nil∈hs:=λi hi=>by
   have:i<hs.length:=by rw[h.n];exact hi
   simp[List.getD,this]
  by_cases e1:i=rows.length
  .by_cases X:j=rows.length
   .omega
   .rw [v8 e1]at h1;rw[r8 X]at U;exact Y k h1 (.inr ⟨_,mem j (by omega),U⟩)
  .rw [r8 e1]at h1;by_cases X:j=rows.length
   .rw [v8 X]at U;exact Y k U (.inr ⟨_,mem i (by omega),h1⟩)
   .rw [r8 X]at U;exact h.d i j k (by omega) (by omega) aa h1 U
end
section
variable{P:Program}{α:Type}{f:α->Value}{T:TypeId}{w w':World}{p q:sn}{c:Nat}{hs ns:List Sl}{rows nrows:List (List α)}
theorem Vw.mK{S:Nat->Prop}{l:List α}(h:Vw f w p l)(m:aE S w w')(hs:l≠[]->∀b,aF p=some b->¬S b):Vw f w' p l:=by
 by_cases hl:l= []
 .subst hl;exact Vw.nil
 .exact h.keep m (hs hl)
structure VR(f:α->Value)(w:World)(hs:List Sl)(rows:List (List α)):Prop where
 n:hs.length=rows.length
 r:∀j,j<rows.length->(hs.getD j Sl.nil).n=(rows.getD j []).length/\(hs.getD j Sl.nil).n<=maxLen/\Vw f w (hs.getD j Sl.nil).p (rows.getD j [])
def oI(hs:List Sl)(k:Nat):Prop:=∃h∈hs,0<h.n/\aF h.p=some k
theorem VR.keep{S:Nat->Prop}(h:VR f w hs rows)(m:aE S w w')(V:∀k,oI hs k->¬S k):VR f w' hs rows:=by
 refine⟨h.n,λj J=>?_⟩;obtain⟨h1,O,U⟩:=h.r j J;refine⟨h1,O,U.mK m λI k Q=>V k ⟨_,?_,?_,Q⟩⟩
 .have:j<hs.length:=by rw[h.n];exact J
  simp[List.getD,this]
 .rw [h1];exact Wx.2 I
theorem VR.grow(h:VR f w hs rows)(m:ak w w'):VR f w' hs rows:=h.keep m λ_ _=>id
theorem VR.nil:VR f w [] []:=⟨rfl,λj I=>by simp at I⟩
theorem VR.lt(h:VR f w hs rows):∀k,oI hs k->k<w.heap.size:=by
 rintro k⟨s,hm,J,I⟩;obtain⟨j,Q,rfl⟩:=cw hm;obtain⟨h1,U,O⟩:=h.r j (by rw[<- h.n];exact Q);exact O.lt (Wx.1 (by rw[<- h1];exact J)) k I
theorem tg{β:Type}{l k:List β}{j:Nat}{d:β}:(l++k).getD j d=if j<l.length then l.getD j d else k.getD (j - l.length) d:=by
 simp only[vx];by_cases h:j<l.length
 .rw [v8 h,Wd h]
 .rw [r8 h,Xd (by omega)]
theorem VR.nu(h:VR f w hs rows)(k:VR f w ns nrows):VR f w (hs++ns) (rows++nrows):=by
 refine⟨by simp[h.n,k.n],λj I=>?_⟩;rw[tg,tg,h.n];by_cases e:j<rows.length
 .rw [v8 e,v8 e];exact h.r j e
 .rw [r8 e,r8 e];exact k.r (j - rows.length) (by simp at I;omega)
theorem VR.bP{s:Sl}{l:List α}(h:Vw f w s.p l)(hn:s.n=l.length)(hm:s.n<=maxLen):VR f w [s] [l]:=by
 refine⟨rfl,λj I=>?_⟩;have:j=0:=by simpa using I
 subst this;exact⟨hn,hm,h⟩
theorem VR.v2(h:VR f w hs rows)(v:Vw Sl.v w p hs):V2 f w p hs rows:=⟨v,h.n,h.r⟩
theorem V2.vr(h:V2 f w p hs rows):VR f w hs rows:=⟨h.n,h.r⟩
structure OV(f:α->Value)(T:TypeId)(w:World)(p:sn)(c:Nat)(hs:List Sl)(rows:List (List α)):Prop where
 h:Ow Sl.v T w p c hs
 v:VR f w hs rows
 d:∀k,oI hs k->aF p≠some k
theorem OV.nil:OV f T w none 0 [] []:=⟨Ow.nil _ _ _,VR.nil,λk ⟨s,hs,_⟩=>by simp at hs⟩
def OV.bK(p:sn)(hs:List Sl)(k:Nat):Prop:=aF p=some k\/oI hs k
theorem OV.keep{S:Nat->Prop}(h:OV f T w p c hs rows)(m:aE S w w')(J:∀k,OV.bK p hs k->¬S k):OV f T w' p c hs rows:=
 ⟨h.h.keep m λk I=>J k (.inl I),h.v.keep m λk I=>J k (.inr I),h.d⟩
theorem OV.grow(h:OV f T w p c hs rows)(m:ak w w'):OV f T w' p c hs rows:=h.keep m λ_ _=>id
theorem OV.lt(h:OV f T w p c hs rows):∀k,OV.bK p hs k->k<w.heap.size:=by
 rintro k (I|I)
 .exact h.h.lt k I
 .exact h.v.lt k I
theorem OV.v2(h:OV f T w p c hs rows):V2 f w p hs rows:=h.v.v2 h.h.vw
theorem qH{k:Nat}:oI (hs++ns) k↔oI hs k\/oI ns k:=by
 constructor
 .rintro ⟨s,hm,h⟩;rcases y4.1 hm with hm|hm
  .exact .inl ⟨s,hm,h⟩
  .exact .inr ⟨s,hm,h⟩
 .rintro (⟨s,hm,h⟩| ⟨s,hm,h⟩)
  .exact ⟨s,Wq _ hm,h⟩
  .exact ⟨s,WB _ hm,h⟩
theorem OV.nu{t ty bytes:Nat}(Q:mg P t T bytes=true)(h:OV f T w p c hs rows){n m k:Nat}(hv:Vw Sl.v w q ns)(hr:VR f w ns nrows)(hn:n=hs.length)(hm:m=ns.length)(V:∀k,oI ns k->aF p≠some k)
 (hlen:(hs.length+ns.length)* (bytes+1)<=140737488355328) {K:World->sn->Nat->Nat->Prop}
 (O:∀w' J c',OV f T w' J c' (hs++ns) (rows++nrows)->aE (λb=>aF p=some b) w w'->(J=p\/J=some ⟨w.heap.size,0,none⟩)->w.heap.size<=w'.heap.size->K w' J (hs++ns).length c'):
 ∃w',∃J n' c',(Builtin.append_ #[t,t] ty #[.slice p n c,.slice q m k]).run P w=.ok (.slice J n' c') w'/\K w' J n' c':=by
 refine h.h.uv Q hv hn hm (λ_=>rfl) hlen λw' J c' o U hp X=>O w' J c' ⟨o,?_,?_⟩ U hp X
 .exact (h.v.keep U λk O e=>h.d k O e).nu (hr.keep U λk O e=>V k O e)
 .intro j I e;rcases hp with h1|h1<;>rw[h1]at e
  .rcases qH.1 I with I|I
   .exact h.d j I e
   .exact V j I e
  .have:j=w.heap.size:=by simp[aF]at e;exact e.symm
   rcases qH.1 I with I|I
   .have:=h.v.lt j I;omega
   .have:=hr.lt j I;omega
theorem bN{b i j:Nat}{cs:Array Value}{v:Value}(h:bO w b cs)(hv:cs[0+i+j]? =some v):w.cell? (((qw b).add i).add j)=some v:=by rw[cA,cA];exact aP h hv
theorem xj{b i j k:Nat}{cs:Array Value}{v:Value}(h:bO w b cs)(hv:cs[0+i+j+k]? =some v):w.cell? ((((qw b).add i).add j).add k)=some v:=by rw[cA,cA,cA];exact aP h hv
theorem iK{b k j i:Nat}{cs:Array Value}{K:World->Prop}{vs:List Value}(h:bO w b cs)(hl:Nat.ble (0+k+j+i+vs.length) cs.size=true)(J:vs.all jA=true)
 (I:∀w',bO w' b (wr cs (0+k+j+i) vs)->aE (·=b) w w'->K w'):∃w',bD (((qw b).add k).add j) i vs w w'/\K w':=by
 rw[cA,cA];exact aX h hl J I
theorem EV{b k j l i:Nat}{cs:Array Value}{K:World->Prop}{vs:List Value}(h:bO w b cs)(hl:Nat.ble (0+k+j+l+i+vs.length) cs.size=true)(J:vs.all jA=true)
 (I:∀w',bO w' b (wr cs (0+k+j+l+i) vs)->aE (·=b) w w'->K w'):∃w',bD ((((qw b).add k).add j).add l) i vs w w'/\K w':=by
 rw[cA,cA,cA];exact aX h hl J I
theorem aO{n:Nat}{k:Nat}(h:aF (some ⟨n,0,none⟩)=some k):k=n:=by simp[aF]at h;exact h.symm
theorem jz.size{o:Obj}{n:Nat}(h:jz o w n w'):w'.heap.size=w.heap.size+1:=by rw[h.eq];simp
end
end Go.Fw
namespace Go.Proofs.YtbdghpjnifjlmaaGreat.W
open Go Go.Fw Go.RowKit
section
def bo(l:Int):Int:=if l<0 then -l else l
def c5(k:Int)(cs:lq):Bool:=decide (0<=k/\k<=1048576/\cs.length<=262144) && cs.all λc=>jL c && c.all λl=>decide (bo l<=k)
theorem tE{l:Int}(h: -9223372036854775808<l)(I:l<9223372036854775808)(w:World):Calls Tryz.prog 52 #[.i l] w λe w'=>e=.returned (.i (bo l))/\ak w w':=by
 refine iu.aj ?_;unfold iu.w;rw[ao (x:=0 - l) (by omega) (by omega)];refine⟨?_,aE.refl w⟩;unfold imax bo;congr 2;split<;>split<;>omega
theorem dj{l:Int}(h:cC l=true):l≠0/\ -1048576<=l/\l<=1048576:=by simpa[cC]using h
theorem cX{c:List Int}(h:jL c=true):(∀l∈c,cC l=true)/\c.length<=4096:=by
 simp only[jL,ts,K',x7]at h;exact h
theorem Pk{l:Int}(hl: -1048576<=l/\l<=1048576){b:Nat}{k:Int}{v:Value}{w:World}(h:bO w b #[.i k,v]):
 Calls Tryz.prog 51 #[.i l,.pointer (some ⟨b,0,none⟩)] w λe w'=>e=.returned (.bool (!decide (bo l<=k)))/\ak w w':=by
 refine ia.aj ?_;have e0:(!decide (bo l<=k))=decide (bo l>k):=by
  by_cases h:bo l<=k
  .rw [I4 h,x9 (by omega)];rfl
  .rw [x9 h,I4 (by omega)];rfl
 rw[e0];refine⟨?_,_,ae h.drew rfl,?_⟩
 .refine (tE (by omega) (by omega) _).mono ?_;rintro e w1⟨rfl,g⟩;exact⟨_,rfl,_,ae (h.drew.grow g) rfl,rfl,(aE.refl w).drew.trans g⟩
 .refine (tE (by omega) (by omega) _).mono ?_;rintro e w1⟨rfl,g⟩;exact⟨_,rfl,rfl,(aE.refl w).drew.trans g⟩
theorem Np:f_ Tryz.prog 51=true:=by kernel_rfl
theorem R7(u v:Value):(#[]++ #[u]++ #[v]:Array Value)= #[u,v]:=by simp
theorem Pz{k:Int}{l:List Int}:l.any (λx=> !decide (bo x<=k))= !l.all λx=>decide (bo x<=k):=by
 induction l with
 |nil=>rfl
 |cons x l ih=>rw[Yd,YB,ih,Bool.not_and]
theorem Gd{α:Type}{l:List α}{q:α->Bool}{t:Nat}{d:α}(ht:t<l.length)(h:(l.take t).all q=true)(hq:q (l.getD t d)=true):(l.take (t+1)).all q=true:=by
 rw[Wo,Yz,h];have:l[t]? =some (l.getD t d):=by simp[List.getD,ht]
 simp only[this,Xn,YB,List.all_nil,hq,XI]
theorem Av{α:Type}{l:List α}{q:α->Bool}{t:Nat}{d:α}(ht:t<l.length)(hq:q (l.getD t d)=false):l.all q=false:=by
 rw[<- WI,K'];intro h;rw[h _ (by simp[List.getD,ht])]at hq;cases hq
theorem ID{w:World}{q:sn}{hs:List Sl}{cs:lq}(Q:V2 sT w q hs cs){m t:Nat}(hm:m=cs.length)(ht:t<cs.length){K:Addr->Prop}(O:∀a (s:Sl),w.cell? a=some (.slice s.p s.n s.c)->s=hs.getD t Sl.nil->s.n=(cs.getD t []).length->s.n<=maxLen->Vw sT w s.p (cs.getD t [])->K a):aV q m (t:Int) 1 K:=
 Q.ix (by omega) hm (by omega) λa s e hs h1 J I=>O a s e (by rw[tn]at hs;exact hs) (by rw[tn]at h1;exact h1) J (by rw[tn]at I;exact I)
theorem eP{w:World}{k:Int}{q:sn}{m d:Nat}{hs:List Sl}{cs:lq}(hc:V2 sT w q hs cs)(hm:m=cs.length):
 Calls Tryz.prog 25 #[.agg #[.i k,.slice q m d]] w λe w'=>e=.returned (.i (if c5 k cs then 0 else 1))/\ak w w':=by
 subst hm;refine lP.aj ?_;intro n1 w2 U;have H:=U.has;have np:∀w',ak w w'->c5 k cs=false->(Ending.returned (.i 1)=.returned (.i (if c5 k cs=true then 0 else 1))/\ak w w'):=λw' g hf=>by rw[hf];exact⟨rfl,g⟩
 have no: ¬(0<=k/\k<=1048576/\cs.length<=262144)->c5 k cs=false:=λh=>by unfold c5;rw[x9 h,XY]
 refine⟨_,ae H rfl,ah (λs1=>np _ U.mod (no ?_)) (λs1=>⟨_,ae H rfl,ah (λs2=>np _ U.mod (no ?_)) (λs2=>⟨_,_,_,ae H rfl,ah (λs3=>np _ U.mod (no ?_)) (λs3=>⟨_,_,_,ae H rfl,?_⟩)⟩)⟩)⟩<;>simp only[x7,x8]at*
 .omega
 .omega
 .omega
 .have Q:c5 k cs=cs.all λc=>jL c && c.all λl=>decide (bo l<=k):=by unfold c5;rw[I4 (by omega),W2]
  refine⟨λv w' z=>∃t:Nat,v=t/\t<=cs.length/\((cs.take t).all λc=>jL c && c.all λl=>decide (bo l<=k))=true/\ak w2 w'/\z+t=cs.length,⟨_,0,rfl,xc _,rfl,aE.refl _,rfl⟩,?_⟩;rintro v az z _⟨t,rfl,ht,ha,G,hz⟩;have G2:=U.mod.trans G;refine ah (λs=>?_) (λs=>?_)<;>simp only[x7,x8]at s
  .have I:t<cs.length:=by omega
   refine ID (hc.grow G2) rfl I λa s e _ V Z hv=>⟨_,_,_,e,(fW hv V Z).mono ?_⟩
   rintro e aT⟨rfl,J⟩;refine⟨_,rfl,ah (λX=>np _ (G2.trans J) ?_) (λX=>?_)⟩
   .rw [Q];refine Av (d:= []) I ?_;cases hh:jL (cs.getD t []) with
    |false=>rfl
    |true=>rw[hh]at X;simp at X
   .have O:jL (cs.getD t [])=true:=by
     cases hh:jL (cs.getD t []) with
     |false=>rw[hh]at X;simp at X
     |true=>rfl
    have an:=(H.grow G).grow J;refine(fS (hv.grow J) V Z Np (λx=> !decide (bo x<=k)) λx hx w' g'=>?_).mono ?_
    .rw [R7];have:=dj ((cX O).1 x hx);exact Pk this.2 (an.grow g')
    .rintro e a6 ⟨rfl,Y⟩;rw[Pz];refine⟨_,rfl,ah (λs5=>np _ ((G2.trans J).trans Y) ?_) (λs5=>⟨z - 1,by omega,t+1,by rw[ao (by omega) (by omega)];omega,I,Gd (d:= []) I ha ?_,(G.trans J).trans Y,by omega⟩)⟩
     .rw [Q];refine Av (d:= []) I ?_;rw[O,W2];simpa using s5
     .rw [O,W2];simpa using s5
  .have:t=cs.length:=by omega
   subst this;rw[L0]at ha;rw[Q,ha];exact⟨rfl,G2⟩
end
section
def jF(m:List Int)(l:Int):Int:=
 if cC l=false\/bo l>m.length then 0 else if m.getD (bo l - 1).toNat 0=0 then 0 else if decide (m.getD (bo l - 1).toNat 0>0)=decide (l>0) then 1 else -1
def ij(m:List Int)(cs:lq):Bool:=cs.all λc=>c.any λl=>decide (jF m l=1)
theorem um(m:List Int)(l:Int):jF m l=0\/jF m l=1\/jF m l= -1:=by
 unfold jF;split
 .simp
 .split
  .simp
  .split<;>simp
theorem xQ{w:World}{p:sn}{n c:Nat}{m:List Int}(h:Vw sT w p m)(hn:n=m.length)(hm:n<=maxLen)(l:Int):
 Calls Tryz.prog 55 #[.slice p n c,.i l] w λe w'=>e=.returned (.i (jF m l))/\ak w w':=by
 subst hn;unfold maxLen at hm;refine qj.aj ?_;refine(O1 l w).mono ?_;rintro e w1⟨rfl,Q⟩;unfold jF;refine⟨_,rfl,ah (λq=>⟨?_,Q⟩) (λq=>?_)⟩<;>simp only[WU,Xx]at q
 .rw [v8 (.inl q)]
 have bd:=dj q;have ba:1<=bo l/\bo l<=1048576:=by unfold bo;split<;>omega
 have wa:IntKind.i64.wrap (bo l - 1)=bo l - 1:=ao (by omega) (by omega);refine(tE (by omega) (by omega) w1).mono ?_;rintro e w3⟨rfl,U⟩;refine⟨_,rfl,ah (λV=>⟨?_,Q.trans U⟩) (λV=>?_)⟩<;>simp only[x7,x8]at V
 .rw [v8 (.inr (by omega))]
 rw[r8 (by rintro(h1|h1);(rw[q]at h1;cases h1);omega)];refine(tE (by omega) (by omega) w3).mono ?_;rintro e Y⟨rfl,X⟩;have O:=(Q.trans U).trans X;refine⟨_,rfl,?_⟩;try dsimp only
 rw[wa];refine(h.grow O).ix 0 (by omega) rfl (by omega) λa e=>⟨_,e,ah (λJ=>⟨?_,O⟩) (λJ=>ah (λI=>⟨?_,O⟩) (λI=>⟨?_,O⟩))⟩<;>simp only[J8,ZI]at J
 .rw [v8 J]
 .simp only[J8]at I;rw[r8 J,v8 I]
 .simp only[ZI]at I;rw[r8 J,r8 I]
theorem BW{α:Type}{l:List α}{q:α->Bool}{t:Nat}{d:α}(ht:t<l.length):(l.take (t+1)).any q=((l.take t).any q||q (l.getD t d)):=by
 rw[Wo,ZC];have:l[t]? =some (l.getD t d):=by simp[List.getD,ht]
 simp only[this,Xn,Yd,Zz,XJ]
end
end Go.Proofs.YtbdghpjnifjlmaaGreat.W
namespace Go.Fw
open Go Go.RowKit
section
variable{P:Program}{α:Type}{sz:Nat}{f:α->List Value}{T:TypeId}{w w':World}{p q:sn}{c:Nat}{l:List α}
structure Jk(sz:Nat)(f:α->List Value):Prop where
 len:∀x,(f x).length=sz
 pos:0<sz
 bP:∀x,∀v∈f x,v.oneCell'=true
theorem jZ(hf:∀x,(f x).length=sz):∀l:List α,(l.flatMap f).length=l.length*sz
 | []=>by simp
 |x::l=>by simp only[X6,I',hf,jZ hf l,Wz];rw[XG,Yf,YZ]
theorem Au(hf:∀x,(f x).length=sz):∀ (l:List α) (j i:Nat) (I:j<l.length),i<sz->(l.flatMap f)[j*sz+i]? =(f l[j])[i]?
 | [],j,i,I,_=>by simp at I
 |x::l,0,i,_,hi=>by
  simp only[X6,Zy,Wr,List.getElem_cons_zero];rw[Wd (by rw[hf];exact hi)]
 |x::l,j+1,i,I,hi=>by
  simp only[X6,List.getElem_cons_succ];rw[Xd (by rw[hf,XG,Yf];omega),hf,<- Au hf l j i (by simpa using I) hi];congr 1;rw[XG,Yf];omega
theorem xY(hf:∀x,(f x).length=sz)(x:α):∀ (l:List α) (j:Nat),j<l.length->(l.flatMap f).take (j*sz)++f x++ (l.flatMap f).drop (j*sz+sz)=(l.set j x).flatMap f
 | [],j,hj=>by simp at hj
 |y::l,0,_=>by
  simp only[X6,Zy,Wr,Zl,WY,List.set_cons_zero];rw[Yv (by rw[hf];exact vy _),Yy (by rw[hf];exact vy _),WY]
 |y::l,j+1,hj=>by
  simp only[X6,YU];rw[<- xY hf x l j (by simpa using hj)];have e:(j+1)*sz=sz+j*sz:=by rw[XG,Yf,YZ]
  rw[e,Zv,List.drop_append,hf,Wi (by rw[hf];omega),Yy (by rw[hf];omega),WY];simp only[WH];congr 2
  .rw [show sz+j*sz - sz=j*sz by omega]
  .rw [show sz+j*sz+sz - sz=j*sz+sz by omega]
def Row(sz:Nat)(f:α->List Value)(T:TypeId)(w:World)(p:sn)(c:Nat)(l:List α):Prop:=w.ownsRow 0 T sz (.slice p l.length c) l.length (l.flatMap f)
theorem Row.nil(sz:Nat)(f:α->List Value)(T:TypeId)(w:World):Row sz f T w none 0 []:=World.ownsRow_nil w 0 T sz
theorem Row.un(h:Row sz f T w p c l):(p=none/\c=0/\l= [])\/∃g cur,p=some ⟨g,0,none⟩/\w.heap[g]? =some (.cells cur T (0,0))/\l.length<=c/\c<=maxLen/\cur.size=c*sz/\cur.toList.take (l.length*sz)=l.flatMap f:=by
 rcases h.2 with⟨h1,I⟩| ⟨g,cap,cur,h1,_,I,Q,O,h5,J⟩
 .simp only[Value.slice.injEq]at h1;exact .inl ⟨h1.1,h1.2.2,Wa I⟩
 .simp only[Value.slice.injEq]at h1;obtain⟨rfl,_,rfl⟩:=h1;exact .inr ⟨g,cur,rfl,I,Q,O,h5,J⟩
theorem Row.da(hf:∀x,(f x).length=sz){g:Nat}{cur:Array Value}(Q:w.heap[g]? =some (.cells cur T (0,0)))(h1:l.length<=c)(J:c<=maxLen)(O:cur.size=c*sz)(I:cur.toList.take (l.length*sz)=l.flatMap f):Row sz f T w (some ⟨g,0,none⟩) c l:=
 ⟨jZ hf l,.inr ⟨g,c,cur,rfl,xc _,Q,h1,J,O,I⟩⟩
theorem Row.lt(h:Row sz f T w p c l):∀b,aF p=some b->b<w.heap.size:=by
 intro b hb;rcases h.un with⟨rfl,_⟩| ⟨g,cur,rfl,J,_⟩
 .simp [aF]at hb
 .simp [aF]at hb;subst hb;rcases Wp g w.heap.size with I|I
  .exact I
  .simp [Wm I]at J
theorem Row.keep{S:Nat->Prop}(h:Row sz f T w p c l)(m:aE S w w')(hs:∀b,aF p=some b->¬S b):Row sz f T w' p c l:=by
 have hl:=h.lt;rcases h.un with⟨rfl,rfl,rfl⟩| ⟨g,cur,rfl,Q,h1,I,O,J⟩
 .exact Row.nil sz f T w'
 .exact ⟨h.1,.inr ⟨g,c,cur,rfl,xc _,(m.block g (hl g rfl) (hs g rfl)).trans Q,h1,I,O,J⟩⟩
theorem Row.grow(h:Row sz f T w p c l)(m:ak w w'):Row sz f T w' p c l:=h.keep m λ_ _=>id
theorem Row.drew(h:Row sz f T w p c l):Row sz f T w.drew p c l:=h
def Vr(sz:Nat)(f:α->List Value)(w:World)(p:sn)(l:List α):Prop:=∀j (I:j<l.length),∃a,p=some a/\aM w (a.add (j*sz)) 0 (f l[j])
theorem aM.keep{S:Nat->Prop}(m:aE S w w'){a:Addr}(hs: ¬S a.block):∀ {vs:List Value} {i:Nat},aM w a i vs->aM w' a i vs
 | [],_,_=>trivial
 |_::_,_,⟨h1,h2⟩=>⟨ee m h1 (by rw[cV];exact hs),aM.keep m hs h2⟩
theorem Vr.keep{S:Nat->Prop}(h:Vr sz f w p l)(m:aE S w w')(hs:∀b,aF p=some b->¬S b):Vr sz f w' p l:=by
 intro j I;obtain⟨a,rfl,J⟩:=h j I;exact⟨a,rfl,J.keep m (by rw[cV];exact hs _ rfl)⟩
theorem Vr.grow(h:Vr sz f w p l)(m:ak w w'):Vr sz f w' p l:=h.keep m λ_ _=>id
theorem Vr.drew(h:Vr sz f w p l):Vr sz f w.drew p l:=h.grow (aE.refl w).drew
theorem Vr.nil:Vr sz f w p []:=λj I=>by simp at I
theorem Row.vr(E:Jk sz f)(h:Row sz f T w p c l):Vr sz f w p l:=by
 intro j J;rcases h.un with⟨_,_,rfl⟩| ⟨g,cur,rfl,Q,h1,U,V,O⟩
 .simp at J
 .refine ⟨_,rfl,?_⟩;rw[cA,Wr];refine aM.Hh λi v hi=>?_;have I:i<sz:=by rw[<- E.len l[j]];exact(Ws.1 hi).1
  rw[cA,Wr];refine aP ⟨T,Q⟩ ?_;have e:(cur.toList.take (l.length*sz))[j*sz+i]? =some v:=by rw[O,Au E.len l j i J I,hi]
  rw[WE]at e;split at e
  .simpa using e
  .cases e
theorem Vr.ix(h:Vr sz f w p l){i:Int}{n:Nat}(d:α)(J:0<=i)(hn:n=l.length)(h1:i<n){K:Addr->Prop}(I:∀a,aM w a 0 (f (l.getD i.toNat d))->K a):aV p n i sz K:=by
 subst hn;obtain⟨a,rfl,O⟩:=h i.toNat (by omega);refine⟨_,rfl,J,h1,I _ ?_⟩;have:l.getD i.toNat d=l[i.toNat]'(by omega):=by simp[List.getD,show i.toNat<l.length by omega]
 rw[this];exact O
theorem yW:∀ (vs:List Value) (cs:Array Value) (o:Nat),o+vs.length<=cs.size->(wr cs o vs).toList=cs.toList.take o++vs++cs.toList.drop (o+vs.length)
 | [],cs,o,_=>by simp[wr]
 |v::vs,cs,o,h=>by
  simp only[Wz]at h;rw[wr,yW vs _ (o+1) (by simp;omega)];simp only[XO,Wz];have h1:o<cs.toList.length:=by simp;omega
  have I:(cs.toList.set o v).take (o+1)=cs.toList.take o++ [v]:=by
   rw[Wo,List.take_set_of_le (vy _),List.getElem?_set_self h1];simp
  have J:(cs.toList.set o v).drop (o+1+vs.length)=cs.toList.drop (o+ (vs.length+1)):=by
   rw[List.drop_set_of_lt (by omega),show o+1+vs.length=o+ (vs.length+1) by omega]
  rw[I,J];simp
theorem vF:∀ (vs:List Value) (cs:Array Value) (o:Nat),(wr cs o vs).size=cs.size
 | [],_,_=>rfl
 |v::vs,cs,o=>by rw[wr,vF vs];simp
theorem zc{b off:Nat}{cs:Array Value}{t:TypeId}{K:World->Prop}:∀ {vs:List Value} {i:Nat},w.heap[b]? =some (.cells cs t)->off+i+vs.length<=cs.size->vs.all jA=true->
 (∀w',w'.heap[b]? =some (.cells (wr cs (off+i) vs) t)->aE (·=b) w w'->w'.heap.size=w.heap.size->K w')->∃w',bD ⟨b,off,none⟩ i vs w w'/\K w':=by
 intro vs
 induction vs generalizing w cs with
 |nil=>intro i h _ _ I;exact⟨w,rfl,I w h (aE.refl w) rfl⟩
 |cons v vs U=>
  intro i h hl O I;simp only[Wz,YB,ts]at hl O;have Q:(w.setCell ⟨b,off+i,none⟩ v).heap[b]? =some (.cells (cs.setIfInBounds (off+i) v) t):=By h v (by omega);have hm:aE (·=b) w (w.setCell ⟨b,off+i,none⟩ v):=⟨rfl,rfl,rfl,by simp,λk _ I=>Below.heap_setCell w _ v k I⟩
  obtain⟨w',V,J⟩:=U (i:=i+1) Q (by simp;omega) O.2 λw' h1 Y X=>I w' (by simpa only[wr,Ye]using h1) (hm.trans Y) (by rw[X];simp);refine⟨w',⟨⟨cs[off+i]'(by omega),ae ⟨t,h⟩ (by simp[show off+i<cs.size by omega])⟩,by rw[cA];exact tN ⟨t,h⟩,O.1,by rw[cA];exact V⟩,J⟩
theorem FM{I vs:List Value}{o n:Nat}(h:o+vs.length<=n)(hn:n<=I.length):(I.take o++vs++I.drop (o+vs.length)).take n=(I.take n).take o++vs++ (I.take n).drop (o+vs.length):=by
 apply Xr;intro j;simp only[WE,YM,I',y6,Xp];repeat' split
 all_goals first
  |rfl
  |omega
  | (congr 1;omega)
theorem Row.st(E:Jk sz f)(h:Row sz f T w p c l){i:Int}{n:Nat}(x:α){vs:List Value}(hv:vs=f x)(ho:vs.all jA=true)(O:0<=i)(hn:n=l.length)(h1:i<n){K:World->Prop}
 (X:∀w',Row sz f T w' p c (l.set i.toNat x)->aE (λb=>aF p=some b) w w'->K w'):aV p n i sz λa=>∃w',bD a 0 vs w w'/\K w':=by
 subst hn hv;rcases h.un with⟨_,_,rfl⟩| ⟨g,cur,rfl,Q,J,Z,Y,h5⟩
 .simp at h1;omega
 .refine ⟨_,rfl,O,h1,?_⟩;rw[cA,Wr];have hb:i.toNat*sz+sz<=l.length*sz:=by
   have:(i.toNat+1)*sz<=l.length*sz:=WQ _ (by omega)
   rwa [XG,Yf]at this
  have V:l.length*sz<=c*sz:=WQ _ J;have I:=E.len x;refine zc (cs:=cur) Q (by rw[I];omega) ho λw' U m _=>X w' ?_ (m.mono λk _ e=>by simp[aF,e]);refine Row.da E.len U (by simpa using J) Z (by rw[vF];exact Y) ?_;rw[Xv,XN,yW _ _ _ (by rw[I];omega),FM (by rw[I];omega) (by simp;omega),I,h5,xY E.len x l i.toNat (by omega)]
theorem Gh(hf:∀x,(f x).length=sz){x:α}{v:Value}{o:Nat}(J:o<sz):∀ (l:List α) (j:Nat) (I:j<l.length),f x=(f l[j]).set o v->(l.flatMap f).set (j*sz+o) v=(l.set j x).flatMap f
 | [],j,I,_=>by simp at I
 |y::l,0,_,hx=>by
  simp only[List.getElem_cons_zero]at hx;simp only[X6,Zy,Wr,List.set_cons_zero];rw[List.set_append_left _ _ (by rw[hf];exact J),hx]
 |y::l,j+1,I,hx=>by
  simp only[List.getElem_cons_succ]at hx;simp only[X6,YU];rw[<- Gh hf J l j (by simpa using I) hx];have e:(j+1)*sz=sz+j*sz:=by rw[XG,Yf,YZ]
  rw[e,List.set_append_right _ _ (by rw[hf];omega),hf];congr 2;omega
theorem Row.VJ(E:Jk sz f)(h:Row sz f T w p c l){i:Int}{n o:Nat}{v:Value}(d x:α)(O:f x=(f (l.getD i.toNat d)).set o v)(I:o<sz)(ho:jA v=true)(Q:0<=i)(hn:n=l.length)(h1:i<n){K:World->Prop}
 (Y:∀w',Row sz f T w' p c (l.set i.toNat x)->aE (λb=>aF p=some b) w w'->K w'):aV p n i sz λa=>∃w',bD (a.add o) 0 [v] w w'/\K w':=by
 subst hn;rcases h.un with⟨_,_,rfl⟩| ⟨g,cur,rfl,U,J,h3,h4,h5⟩
 .simp at h1;omega
 .refine ⟨_,rfl,Q,h1,?_⟩;rw[cA,Wr];show ∃w',bD ((Addr.mk g (i.toNat*sz) none).add o) 0 [v] w w'/\K w';rw[cA];have hb:i.toNat*sz+sz<=l.length*sz:=by
   have:(i.toNat+1)*sz<=l.length*sz:=WQ _ (by omega)
   rwa [XG,Yf]at this
  have X:l.length*sz<=c*sz:=WQ _ J;refine zc (cs:=cur) U (by simp;omega) (by simp[ho]) λw' V m _=>Y w' ?_ (m.mono λk _ e=>by simp[aF,e]);refine Row.da E.len V (by simpa using J) h3 (by rw[vF];exact h4) ?_;have hl:i.toNat<l.length:=by omega
  have Z:(l.getD i.toNat d)=l[i.toNat]:=by simp[List.getD,hl]
  rw[Z]at O;rw[Xv,<- Gh E.len I l i.toNat hl O,<- h5,XN];simp only[wr,XO,ZG]
def rM(P:Program)(t e:TypeId)(sz bytes:Nat):Bool:=
 (match P.underlying t with|some (.slice I)=>Nat.beq I e|_=>false) && (match P.info? e with|some i=>Nat.beq i.size sz && Nat.beq i.bytes bytes && (match i.zero with|some z=>Nat.beq z.cells.size sz|none=>false)|none=>false)
theorem uy{t e bytes:Nat}(h:rM P t e sz bytes=true):P.underlying t=some (.slice e)/\∃i z,P.info? e=some i/\i.zero=some z/\i.size=sz/\i.bytes=bytes/\z.cells.size=sz:=by
 simp only[rM,ts]at h;obtain⟨h1,I⟩:=h;split at h1
 .rename_i J he;have:J=e:=V_ h1;subst this;split at I
  .rename_i i hi;simp only[ts]at I;obtain⟨⟨Q,O⟩,h5⟩:=I;split at h5
   .rename_i z U;exact⟨he,i,z,hi,U,V_ Q,V_ O,V_ h5⟩
   .simp at h5
  .simp at I
 .simp at h1
theorem Vr.RY(E:Jk sz f){a:Addr}(h:Vr sz f w (some a) l):∀j u,(l.flatMap f)[j]? =some u->w.cell? (a.add j)=some u:=by
 intro j u I;have J:j<l.length*sz:=by rw[<- jZ E.len l];exact(Ws.1 I).1
 have O:j / sz<l.length:=(Nat.div_lt_iff_lt_mul E.pos).2 J;have hm:=Nat.mod_lt j E.pos;have e:j=j / sz*sz+j % sz:=by rw[YN];exact(ZB j sz).symm
 obtain⟨U,ha,Q⟩:=h (j / sz) O;simp only[Wu]at ha;subst ha;rw[e,Au E.len l _ _ O hm]at I;have:=Q.get (j % sz) u I;rw[vI,Wr,<- e]at this;exact this
theorem Row.nu{t ty e bytes:Nat}(E:Jk sz f)(hs:rM P t e sz bytes=true)(h:Row sz f e w p c l){news:List α}{m k n:Nat}(h2:Vr sz f w q news)(hn:n=l.length)(hm:m=news.length)
 (hlen:(l.length+news.length)* (bytes+1)<=140737488355328) {K:World->sn->Nat->Nat->Prop}
 (V:∀w' Z c',Row sz f e w' Z c' (l++news)->aE (λb=>aF p=some b) w w'->(Z=p\/Z=some ⟨w.heap.size,0,none⟩)->w.heap.size<=w'.heap.size->K w' Z (l++news).length c'):
 ∃w',∃Z n' c',(Builtin.append_ #[t,t] ty #[.slice p n c,.slice q m k]).run P w=.ok (.slice Z n' c') w'/\K w' Z n' c':=by
 obtain⟨ht,i,z,hi,hz,h1,ac,h3⟩:=uy hs;subst hn hm;rcases Wt news.length with h0|X
 .have:news= []:=Wa h0;subst this;refine⟨w,p,l.length,c,?_,?_⟩
  .rcases h.un with⟨rfl,rfl,rfl⟩| ⟨g,cur,rfl,hg,g1,g2,g3,g4⟩<;>cases q<;>
    simp[Builtin.append_,run_underlying ht,sizeOf,typeInfo,Builtin.lenOf,Builtin.firstCells,loadCells,loadCellsFrom,storeCells, *]
  .have:=V w p c (by simpa using h) (aE.refl w) (.inl rfl) (vy _);simpa using this
 .obtain ⟨a,rfl,_⟩:=h2 0 X;have hb:(l.length+news.length)*bytes<=140737488355328:=Wl (X8 _ (Nat.le_succ _)) hlen;have ap:l.length+news.length<=140737488355328:=Wl (YW _ (Nat.succ_pos _)) hlen;have J:(l++news).length=l.length+news.length:=by simp
  have U:=jZ E.len l;have I:=jZ E.len news;have aa:(news.flatMap f).length=news.length*i.size:=by rw[I,h1]
  have Y:=h2.RY E;have ag:∀u∈news.flatMap f,u.oneCell'=true:=λu hu=>by obtain⟨x,_,hx⟩:=Yu.1 hu;exact E.bP x u hx
  have Q:l.length*sz+news.length*sz=(l.length+news.length)*sz:=(XG _ _ _).symm;have cE:∀vU,Row sz f e (w.drew.alloc (.cells ((l.flatMap f).toArray++ (news.flatMap f).toArray++Builtin.zeroCells z.cells (grownCap w (l.length+news.length) vU e - (l.length+news.length))) e))
   (some ⟨w.heap.size,0,none⟩) (grownCap w (l.length+news.length) vU e) (l++news):=by
   intro vU;have a8:=grownCap_ge w (l.length+news.length) vU e;have av:grownCap w (l.length+news.length) vU e<=maxLen:=grownCap_le_maxLen w _ vU e (by simp only[maxLen];omega);refine Row.da E.len (cur:=(l.flatMap f).toArray++ (news.flatMap f).toArray++Builtin.zeroCells z.cells (grownCap w (l.length+news.length) vU e - (l.length+news.length))) YS (by omega) av ?_ ?_
   .simp only[Array.size_append,XK,size_zeroCells,h3,U,I,Q];rw[<- XG];congr 1;omega
   .simp only[Array.toList_append,X_];rw[J,<- Q,Wg (by simp[U,I]),Wi (by simp[U,I])]
  have gr:∀ (o:Obj),aE (λb=>aF p=some b) w (w.drew.alloc o):=λo=>⟨rfl,rfl,rfl,by simp,λk V _=>Below.heap_alloc w.drew o k V⟩
  rcases h.un with⟨rfl,rfl,rfl⟩| ⟨g,cur,rfl,hg,g1,g2,g3,g4⟩
  .have hr:=run_append_nil (P:=P) w t ty e i z ht hi hz a news.length k (news.flatMap f) aa Y X (by simp at ap;omega) (by rw[ac];simp at hb;omega);have hf:=cE 0;simp only[Xi,Wr,List.flatMap_nil,WY]at hf hr J V ⊢;refine⟨_,_,_,_,hr,?_⟩;exact V _ _ _ (by simpa using hf) (gr _) (.inr rfl) (by simp)
  .by_cases O:l.length+news.length<=c
   .have an:l.length*sz+news.length*sz<=cur.size:=by rw[Q,g3];exact WQ _ O
    have hr:=run_append_room (P:=P) w t ty e i ht hi g l.length c cur hg a news.length k (news.flatMap f) aa Y ag O (by rw[h1,I];exact an);refine⟨_,_,_,_,hr,?_⟩;rw[<- J];refine V _ _ _ (Row.da E.len (setRow_heap w g cur _ e _ hg) (by omega) g2 ?_ ?_) ⟨rfl,rfl,rfl,by simp,λk _ V=>setRow_other w g k _ λhe=>V (by simp[aF,he])⟩ (.inl rfl) (by simp)
    .simp only[XK,I',y6,WD,X7,I,h1];omega
    .rw [J,h1,X_,<- Q,<- g4];rw[Wg (by simp[I];omega),Wi (by simp[I];omega)]
   .have hr:=run_append_grow (P:=P) w t ty e i z ht hi hz ⟨g,0,none⟩ l.length c (l.flatMap f) (by rw[U,h1]) ((Row.vr E h).RY E) a news.length k (news.flatMap f) aa Y (by omega) (by omega) (growslice_fits (by omega) (by rw[ac];exact hb));refine⟨_,_,_,_,hr,?_⟩;rw[<- J];exact V _ _ _ (by rw[J];exact cE c) (gr _) (.inr rfl) (by simp)
end
section
variable{P:Program}{α:Type}{f:α->Value}{T:TypeId}{w w':World}{p:sn}{c:Nat}{l:List α}
theorem Ow.clear{t ty e bytes:Nat}(hs:mg P t e bytes=true){x:α}{v:Value}(X:(P.info? e).bind (·.zero)=some v)(hv:v.cells= #[f x])(ho:(f x).oneCell'=true)(h:Ow f e w p c l){k m d:Nat}(hk:k+m=l.length)(hm:0<m){K:World->Prop}
 (Z:∀w',Ow f e w' p c (l.take k)->aE (λb=>aF p=some b) w w'->K w'):
 ∃w',(Builtin.clear_ #[t] ty #[.slice (p.map (·.add (k*1))) m d]).run P w=.ok (.tuple #[]) w'/\K w':=by
 obtain⟨ht,i,z,hi,I,h1,hb,h3⟩:=nV hs;have O:z=v:=by simp only[hi,XD]at X;rw[I]at X;exact WS X
 subst O;rcases h.un with⟨rfl,rfl,rfl⟩| ⟨g,cur,rfl,hg,g1,g2,g3,g4⟩
 .simp at hk;omega
 .have U:(Builtin.zeroCells z.cells m).toList=List.replicate m (f x):=by
   rw[hv];simp[Builtin.zeroCells];apply XC
   .simp
   .intro i h1 h2;simp[Nat.mod_one]
  obtain⟨w2,V,Y⟩:=zc (b:=g) (off:=0+k*1) (i:=0) (vs:=List.replicate m (f x)) (K:=λw'=>∃Q:World,Q=w'/\w'.heap[g]? =some (.cells (wr cur (0+k*1+0) (List.replicate m (f x))) e (0,0))/\aE (·=g) w w') hg (by simp;omega) (by
   rw[K'];intro u hu;rw[List.eq_of_mem_replicate hu];exact ho) λw' a1 a2 _=>⟨w',rfl,a1,a2⟩
  obtain⟨_,_,a1,a2⟩:=Y;refine⟨w2,?_,Z w2 ?_ (a2.mono λb _ hb=>by subst hb;rfl)⟩
  .have hr:=jo (P:=P) ⟨g,0+k*1,none⟩ _ _ _ _ V;obtain⟨m,rfl⟩: ∃n,m=n+1:=⟨m - 1,by omega⟩
   have J:(zeroValue e:Sem Value).run P w=.ok z w:=by
    simp[zeroValue,typeInfo,hi,I,Sem.run_bind]
   simp only[Xw,cA];rw[Wr,XZ]at hr;simp[Builtin.clear_,run_underlying ht,J,U,hr]
  .have hw:(wr cur (0+k*1+0) (List.replicate m (f x))).toList=cur.toList.take k++List.replicate m (f x)++cur.toList.drop (k+m):=by
    rw[yW _ _ _ (by simp;omega)];simp
   refine Ow.da a1 (by simp;omega) g2 (by rw[vF];exact g3) ?_;rw[hw,y6,WK (by omega),WH,Wg (by simp;omega),X0,Nat.min_self,YC,<- g4,X0,WK (by omega)]
end
end Go.Fw
namespace Go.Proofs.YtbdghpjnifjlmaaGreat.W
open Go Go.Fw Go.RowKit Go.SoP Go.LiP
open Go.Proofs.Tryz (prog)
section
variable{w:World}{p q:sn}{n c:Nat}{l:List Int}
theorem cR:mg prog aI aB 8=true:=by kernel_rfl
theorem iC:(Tryz.prog.info? aB).bind (·.zero)=some (.i 0):=by kernel_rfl
theorem DE(l:Int):bo l=am l:=rfl
theorem Gr{x:Int}(h:cC x=true):1<=am x/\am x<=1048576:=by
 have:=dj h;unfold am;split<;>omega
theorem zk{l:Int}(h: -9223372036854775808<l)(I:l<9223372036854775808)(w:World):Calls prog 52 #[.i l] w λe w'=>e=.returned (.i (bo l))/\xZ w w':=by
 refine iu.aj ?_;unfold iu.w;rw[ao (x:=0 - l) (by omega) (by omega)];refine⟨?_,xZ.refl w⟩;unfold imax bo;congr 2;split<;>split<;>omega
theorem KH{x y:Int}(J:cC x=true)(O:cC y=true)(w:World):Calls prog 180 #[.i x,.i y] w λe w'=>e=.returned (.i (tT x y))/\xZ w w':=by
 refine jk.aj ?_;have Z:=dj J;have bY:=dj O;have ax:=Gr J;have ay:=Gr O;refine(zk (l:=x) (by omega) (by omega) w).mono ?_;rintro e w1⟨rfl,U⟩;refine⟨_,rfl,(zk (l:=y) (by omega) (by omega) w1).mono ?_⟩;rintro e w2⟨rfl,X⟩;rw[DE,DE];have I:=U.trans X;refine⟨_,rfl,ah (λs=>?_) (λs=>⟨?_,I⟩)⟩
 .have s:am x≠am y:=by simpa using s
  refine(zk (l:=x) (by omega) (by omega) w2).mono ?_;rintro e w3⟨rfl,Q⟩;refine⟨_,rfl,(zk (l:=y) (by omega) (by omega) w3).mono ?_⟩;rintro e Y⟨rfl,V⟩;rw[DE,DE];refine⟨_,rfl,?_,(I.trans Q).trans V⟩;unfold tT;rw[v8 s,ao (by omega) (by omega)]
 .have s: ¬am x≠am y:=by simpa using s
  unfold tT;rw[r8 s,ao (by omega) (by omega)]
theorem Ht:f_ prog 180=true:=by kernel_rfl
theorem gK{t:Nat}{x:Int}(h:t<l.length):x∈l.take (t+1)↔x∈l.take t\/x=l.getD t 0:=by
 rw[Wo,y4];have:l[t]? =some (l.getD t 0):=by simp[List.getD,h]
 rw[this];simp
theorem cw{t:Nat}(h:t<l.length):l.getD t 0∈l:=by simp[List.getD,h]
theorem Nk(h:Vw sT w p l)(hn:n=l.length)(hm:n<=maxLen)(x:Int):Calls prog 184 #[.slice p n c,.i x] w λe w'=>∃r:Int,e=.returned (.i r)/\(r>=0↔x∈l)/\ak w w':=by
 refine dR.aj ?_;unfold maxLen at hm;refine⟨λI w' k=>∃t:Nat,I=t/\t<=l.length/\k=l.length - t/\x ∉ l.take t/\ak w w',⟨_,0,rfl,xc _,rfl,by simp,aE.refl w⟩,?_⟩;rintro I w1 k _⟨t,rfl,ht,rfl,ha,G⟩;refine ah (λs=>?_) (λs=>⟨-1,rfl,?_,G⟩)
 .have s:t<l.length:=by simp at s;omega
  refine(h.grow G).ix 0 (by omega) hn (by omega) λa e=>⟨_,e,?_⟩
  rw[tn];refine ah (λJ=>⟨(t:Int),rfl,?_,G⟩) (λJ=>⟨_,?_,t+1,wN,by omega,rfl,?_,G⟩)
  .have J:x=l.getD t 0:=by simpa using J
   exact⟨λ_=>by rw[J];exact cw s,λ_=>by omega⟩
  .omega
  .have J:x≠l.getD t 0:=by simpa using J
   rw[gK s];rintro(e|e)
   .exact ha e
   .exact J e
 .have:t=l.length:=by simp at s;omega
  subst this;rw[L0]at ha;exact⟨λh=>by omega,λh=>absurd h ha⟩
theorem xH(h:Vw sT w p l)(hn:n=l.length)(hm:n<=maxLen)(x:Int):Calls prog 145 #[.slice p n c,.i x] w λe w'=>e=.returned (.bool (decide (x∈l)))/\ak w w':=by
 refine c8.aj ?_;refine(Nk h hn hm x).mono ?_;rintro e w1⟨r,rfl,hr,I⟩;exact⟨_,rfl,by rw[decide_eq_decide.2 hr],I⟩
theorem w_(u v:Value):(#[]++ #[u]++ #[v]:Array Value)= #[u,v]:=by simp
theorem iA(h:Vw sT w p l)(hn:n=l.length)(hm:n<=1000000):Calls prog 79 #[.slice p n c] w λe w'=>∃ (q:sn) (d:Nat),e=.returned (.slice q l.length d)/\d_ aB w' q d l/\ak w w'/\(∀b,aF q=some b->w.heap.size<=b):=by
 refine dS.aj ?_;refine ah (λs=>?_) (λs=>?_)
 .have hp:p=none:=by cases p<;>simp at s ⊢
  subst hp;have:l= []:=by
   rcases l with _| ⟨x,l⟩
   .rfl
   .obtain ⟨a,ha,_⟩:=h 0 (by simp);cases ha
  subst this;exact⟨none,0,rfl,Ow.nil _ _ _,aE.refl w,λb hb=>by simp[aF]at hb⟩
 .intro J w1 h1;have o1:d_ aB w1 (some ⟨J,0,none⟩) 0 []:=jz.RQ h1;refine o1.uv cR (h.grow h1.mod) rfl hn eI (by simp;omega) λw2 O U o2 m2 I Q=>?_;rw[WY]at o2 ⊢;have V:=h1.num;refine⟨O,U,rfl,o2,h1.mod.then m2 λb hb e=>?_,λb hb=>?_⟩
  .have:=aO e;omega
  .rcases I with rfl|rfl
   .have:=aO hb;omega
   .have:=aO hb;have:=h1.mod.size;omega
theorem Bb{k m j:Nat}(_:k+m=l.length)(I:j<m):((l.drop k).take m).getD j 0=l.getD (k+j) 0:=by
 simp only[vx];rw[WE,v8 I,Xp]
theorem Cg{l:List Int}{i j:Nat}{x:Int}(hi:i<l.length):(l.set i x).getD j 0=if j=i then x else l.getD j 0:=kD hi
theorem pW{l:List Int}{k:Nat}{x:Int}(h:k<l.length):(l.set k x).take (k+1)=l.take k++ [x]:=by
 rw[Wo,ZG,List.set_eq_of_length_le (by simp;omega)];simp[h]
theorem GY(o:d_ aB w p c l)(hn:n=l.length)(hm:n<=1000000):Calls prog 181 #[.slice p n c] w λe w'=>e=.returned (.slice p (yZ l l.length).length c)/\d_ aB w' p c (yZ l l.length)/\aE (Bk p) w w':=by
 refine cP.aj ?_;refine ah (λs=>?_) (λs=>?_)
 .have s:l.length<2:=by simp at s;omega
  have:yZ l l.length=l:=by
   rw[uZ (vy _) (λj V Z=>by omega),L0]
  rw[this,hn];exact⟨rfl,o,aE.refl w⟩
 have s:2<=l.length:=by simp at s;omega
 refine⟨λI w' k=>∃t:Nat,I=t/\1<=t/\t<=n/\k=n - t/\(∀j,0<j->j<t->l.getD j 0≠l.getD (j - 1) 0)/\d_ aB w' p c l/\aE (Bk p) w w',⟨_,1,rfl,vy _,by omega,rfl,λj V Z=>by omega,o,aE.refl w⟩,?_⟩;rintro I w1 k _⟨t,rfl,t1,ht,rfl,ha,o1,m1⟩;have ax:l.length<=c:=by
  rcases o.un with⟨_,_,rfl⟩| ⟨_,_,_,_,h,_⟩
  .simp at s
  .exact h
 refine ah (λr=>?_) (λr=>?_)
 .have r:t<n:=by simpa using r
  have e1:IntKind.i64.wrap ((t:Int) - 1)=((t - 1:Nat):Int):=wN;rw[e1];refine o1.drew.ix 0 (by omega) hn (by omega) λa e=>⟨_,e,o1.drew.ix 0 (by omega) hn (by omega) λa e=>⟨_,e,?_⟩⟩
  rw[tn,tn];refine ah (λO=>?_) (λO=>⟨_,?_,t+1,wN,by omega,by omega,rfl,λj V Z=>?_,o1.drew,m1.drew⟩)
  .have O:l.getD t 0=l.getD (t - 1) 0:=by simpa using O
   refine gh t n c rfl rfl rfl (by omega) (by omega) (by omega) ?_;rw[r8 (by omega)];have d0:yZ l t=l.take t:=uZ (by omega) ha;have d1:yZ l (t+1)=l.take t:=by
    unfold yZ;rw[v8 ⟨by omega,O⟩,d0]
   refine⟨λI J w' k=>∃ (i j:Nat) (cur:List Int),I=i/\J=j/\1<=j/\j<=n - t/\k=n - t - j/\i<t+j/\cur.length=n/\(∀x,t+j - 1<=x->x<n->cur.getD x 0=l.getD x 0)/\cur.take i=yZ l (t+j)/\d_ aB w' p c cur/\aE (Bk p) w w',⟨_,t,1,l,rfl,rfl,vy _,by omega,rfl,by omega,hn.symm,λ_ _ _=>rfl,d1.symm,o1.drew,m1.drew⟩,?_⟩;clear d0 d1;rintro I J w2 k _⟨i,j,cur,rfl,rfl,V,Z,rfl,hi,hc,X,Y,o2,m2⟩;have v2:Vw sT w2 (p.map (·.add (t*1))) ((cur.drop t).take (n - t)):=o2.vw.part (by omega);have hv:n - t=((cur.drop t).take (n - t)).length:=by simp;omega
   refine ah (λU=>?_) (λU=>?_)
   .have U:j<n - t:=by simpa using U
    have e2:IntKind.i64.wrap ((j:Int) - 1)=((j - 1:Nat):Int):=wN;rw[e2];refine v2.drew.ix 0 (by omega) hv (by omega) λa e=>⟨_,e,v2.drew.ix 0 (by omega) hv (by omega) λa e=>⟨_,e,?_⟩⟩
    rw[tn,tn,Bb (by omega) U,Bb (by omega) (by omega),X _ (by omega) (by omega),X _ (by omega) (by omega)];have ed:yZ l (t+j+1)=if 0<t+j/\l.getD (t+j) 0=l.getD (t+j - 1) 0 then yZ l (t+j) else yZ l (t+j)++ [l.getD (t+j) 0]:=rfl
    rw[show t+ (j - 1)=t+j - 1 by omega];refine ah (λQ=>?_) (λQ=>?_)
    .have Q:l.getD (t+j) 0≠l.getD (t+j - 1) 0:=by simpa using Q
     refine v2.drew.ix 0 (by omega) hv (by omega) λa e=>⟨_,e,?_⟩
     rw[tn,Bb (by omega) U,X _ (by omega) (by omega)];refine o2.drew.st (l.getD (t+j) 0) rfl rfl (by omega) hc.symm (by omega) λw3 o3 m3=>?_;rw[tn]at o3;refine⟨_,?_,i+1,j+1,_,wN,wN,by omega,by omega,rfl,by omega,by simpa using hc,λx x1 x2=>?_,?_,o3,m2.drew.trans m3⟩
     .omega
     .rw [Cg (by omega),r8 (by omega)];exact X x (by omega) x2
     .rw [pW (by omega),Y,show t+ (j+1)=t+j+1 by omega,ed,r8 (λe=>Q e.2)]
    .have Q:l.getD (t+j) 0=l.getD (t+j - 1) 0:=by simpa using Q
     refine⟨_,?_,i,j+1,cur,rfl,wN,by omega,by omega,rfl,by omega,hc,λx x1 x2=>X x (by omega) x2,?_,o2.drew,m2.drew⟩
     .omega
     .rw [Y,show t+ (j+1)=t+j+1 by omega,ed,v8 ⟨by omega,Q⟩]
   .have U:j=n - t:=by simp at U;omega
    have ay:i<n:=by omega
    have ag:(yZ l l.length).length=i:=by
     rw[show l.length=t+j by omega,<- Y];simp;omega
    refine gh i n c rfl rfl rfl (by omega) (by omega) (by omega) ?_;rw[r8 (by omega)];refine o2.clear cR iC (x:=(0:Int)) rfl rfl (by omega) (by omega) λw3 o3 m3=>?_;refine gh 0 i c rfl rfl rfl (by omega) (by omega) (by omega) ?_;rw[r8 (by omega),WO,WO];have ep:p.map (·.add (0*1))=p:=by cases p<;>simp[Addr.add]
    rw[ep,ag];rw[Y,show t+j=l.length by omega]at o3;exact⟨rfl,o3,m2.trans m3⟩
  .omega
  .have O:l.getD t 0≠l.getD (t - 1) 0:=by simpa using O
   by_cases e:j=t
   .subst e;exact O
   .exact ha j V (by omega)
 .have r:t=n:=by simp at r;omega
  have:yZ l l.length=l:=by
   rw[uZ (vy _) (λj V Z=>ha j V (by omega)),L0]
  rw[this,hn];exact⟨rfl,o1,m1⟩
end
section
variable{w:World}{p q:sn}{n c:Nat}{l:List Int}
theorem xa{W0:World}{l:List Int}(o:d_ aB w p c l)(G:ak W0 w)(fr:∀b,aF p=some b->W0.heap.size<=b){m k:Nat}{news:List Int}(v:Vw sT w q news)(hn:n=l.length)(hm:m=news.length)(hlen:l.length+news.length<=1000000){K:World->sn->Nat->Nat->Prop}
 (Q:∀w' I c',d_ aB w' I c' (l++news)->ak W0 w'->(∀b,aF I=some b->W0.heap.size<=b)->K w' I (l++news).length c'):
 ∃w',∃I n' c',(Builtin.append_ #[aI,aI] aI #[.slice p n c,.slice q m k]).run prog w=.ok (.slice I n' c') w'/\K w' I n' c':=by
 refine o.uv cR v hn hm eI (by omega) λw2 O V o2 m2 J U=>?_;refine Q w2 O V o2 (G.then m2 λb hb e=>?_) λb hb=>?_
 .have:=fr b e;omega
 .rcases J with rfl|rfl
  .exact fr b hb
  .have:=aO hb;have:=G.size;omega
theorem TT(p:sn):p.map (·.add (0*1))=p:=by cases p<;>simp[Addr.add]
end
section
variable{w:World}{p q:sn}{n c:Nat}{l:List Int}
theorem Oy(o:d_ aB w p c l)(hn:n=l.length)(hm:n<=100000)(hl:∀x∈l,cC x=true){K:Ending->World->Prop}
 (U:∀w',d_ aB w' p c (bC l)->aE (Bk p) w w'->K (.returned (.slice p (bC l).length c)) w'):
 Calls prog 179 #[.slice p n c,.func (.func 180) #[] #[]] w λe w1=>e=.returned (.tuple #[])/\Calls prog 181 #[.slice p n c] w1 K:=by
 have X:Cx w p n l 180 #[] tT:=by
  refine⟨hn,by omega,Ht,λx J y Q w' _=>?_,vS⟩;have:(#[]++ #[Value.int .i64 x,.i y]++ #[]:Array Value)= #[.i x,.i y]:=by simp
  rw[this];exact KH (hl x J) (hl y Q) w'
 refine(D0 X o).mono ?_;rintro e w1⟨rfl,l1,o1,m1,I,O⟩;refine⟨rfl,(GY o1 (by rw[hn,I.length_eq]) (by omega)).mono ?_⟩;rintro e w2⟨rfl,o2,m2⟩;have:yZ l1 l1.length=bC l:=(Qs I O).HY (c_ l);rw[this]at o2 ⊢;exact U w2 o2 (m1.trans m2)
theorem PX{l:List Int}(h:jL l=true):∀x∈l,cC x=true:=(cX h).1
theorem Oo(hl:∀x∈l,cC x=true):∀x∈bC l,cC x=true:=λx I=>hl x (((c_ l).mem x).1 I)
theorem Jj(h:Vw sT w p l)(hn:n=l.length)(hm:n<=maxLen):Calls prog 122 #[.slice p n c] w λe w'=>∃ (q:sn) (d:Nat) (m:List Int),m=(if jL l then bC l else [])/\e=.returned (.tuple #[.slice q m.length d,.bool (jL l && nh l)])/\d_ aB w' q d m/\ak w w'/\(∀b,aF q=some b->w.heap.size<=b):=by
 refine qL.aj ?_;refine(fW h hn hm).mono ?_;rintro e w1⟨rfl,U⟩;cases hc:jL l with
 |false=>exact⟨_,rfl,bJ rfl ⟨none,0,[],rfl,rfl,Ow.nil _ _ _,U,λb e=>by simp[aF]at e⟩⟩
 |true=>
 have O:=PX hc;have hlen:=(cX hc).2;refine⟨_,rfl,bq rfl ((iA (h.grow U) hn (by omega)).mono ?_)⟩;rintro e w2⟨q,d,rfl,o2,g2,f2⟩;refine⟨_,_,_,rfl,Oy o2 rfl (by omega) O λw4 o4 m4=>?_⟩;have g4:ak w w4:=(U.trans g2).then m4 λb hb e=>by
  have:=f2 b e;have:=U.size;omega
 have fq:∀b,aF q=some b->w.heap.size<=b:=λb e=>by have:=f2 b e;have:=U.size;omega
 have an:=sM l;have nz:∀x∈l,x≠0:=λx hx=> (dj (O x hx)).1;have ta:=Nz (c_ l) nz;refine⟨_,_,_,rfl,λI w' k=>∃t:Nat,I=t/\1<=t/\(∀i,0<i->i<t->i< (bC l).length->(bC l).getD i 0≠ -((bC l).getD (i - 1) 0))/\k=(bC l).length - t/\d_ aB w' q d (bC l)/\ak w w',⟨_,1,rfl,vy _,λi V Y=>by omega,rfl,o4,g4⟩,?_⟩;rintro I w5 k _⟨t,rfl,t1,ha,rfl,Q,X⟩;refine ah (λs=>?_) (λs=>?_)
 .have s:t< (bC l).length:=by simpa using s
  have e1:IntKind.i64.wrap ((t:Int) - 1)=((t - 1:Nat):Int):=wN;rw[e1];refine Q.drew.ix 0 (by omega) rfl (by omega) λa e=>⟨_,e,Q.drew.ix 0 (by omega) rfl (by omega) λa e=>⟨_,e,?_⟩⟩
  rw[tn,tn];have hb:=dj (Oo O _ (cw (l:=bC l) (t:=t - 1) (by omega)));have ew:IntKind.i64.wrap (0 - (bC l).getD (t - 1) 0)= -((bC l).getD (t - 1) 0):=by rw[ao (by omega) (by omega)];omega
  try dsimp only
  rw[ew];refine ah (λJ=>?_) (λJ=>⟨_,?_,t+1,wN,by omega,λi V Y Z=>?_,rfl,Q.drew,X.drew⟩)
  .have J:(bC l).getD t 0= -((bC l).getD (t - 1) 0):=by simpa using J
   have:nh l=true:=ta.2 ⟨t,by omega,s,J⟩;exact⟨q,d,bC l,rfl,by rw[this];rfl,Q.drew,X.drew,fq⟩
  .omega
  .have J:(bC l).getD t 0≠ -((bC l).getD (t - 1) 0):=by simpa using J
   by_cases e:i=t
   .subst e;exact J
   .exact ha i V (by omega) Z
 .have s:(bC l).length<=t:=by simp at s;omega
  have:nh l=false:=by
   rw[<- WI];intro h;obtain⟨i,V,Y,Z⟩:=ta.1 h;exact ha i V (by omega) Y Z
  exact⟨q,d,bC l,rfl,by rw[this];rfl,Q,X,fq⟩
def wo(l:List Int)(x:Int):List Int:=l.filter λy=>y !=x
theorem wk(h:Vw sT w p l)(hn:n=l.length)(hm:n<=maxLen):Calls prog 122 #[.slice p n c] w λe w'=>∃ (q:sn) (d:Nat) (m:List Int),m=(if jL l then bC l else [])/\e=.returned (.tuple #[.slice q m.length d,.bool (jL l && nh l)])/\d_ aB w' q d m/\ak w w':=
 (Jj h hn hm).mono λ_ _ ⟨q,d,m,I,J,o,g,_⟩=>⟨q,d,m,I,J,o,g⟩
theorem Tf{x:Int}:(wo l x).length<=l.length:=WZ _ _
end
