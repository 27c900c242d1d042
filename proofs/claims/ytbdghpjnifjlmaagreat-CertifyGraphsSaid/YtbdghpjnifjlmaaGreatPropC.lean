/- Layer 6: the statements PropSound and PropNobody. -/
import Derived.Test.YtbdghpjnifjlmaaGreatPropB
import Derived.Test.YtbdghpjnifjlmaaGreatFwRead
import Derived.Test.YtbdghpjnifjlmaaGreatFwMem
import Derived.Maps.OwnSet
import Derived.Test.YtbdghpjnifjlmaaGreatSortA
import Derived.Test.YtbdghpjnifjlmaaGreatQuotaA
set_option linter.all false
namespace Go.Proofs.YtbdghpjnifjlmaaGreat.W
open Go Go.Fw Go.RowKit Go.SoP Go.LiP
section
variable{w w' w0 w2 w3:World}{b:Nat}{H H' H2:Pt->Sl}{s t u s' T:aH}{p cp gp dp ap:sn}{hs:List Sl}{cs:lq}{gl:List Bool}{dl c m:List Int}{cn cc gn gc dn dc an ac:Nat}{v:Int}
theorem zp{n:Nat}{l:Int}(hn:n<=1048576)(h:dZ n l):cC l=true:=by
 have:=(iX hn).2 h;unfold C7 at this;simp only[ts]at this;exact this.1
end
section
variable{w w' w0 w2 w3:World}{b:Nat}{H H' H2:Pt->Sl}{s t u s' T:aH}{p cp gp dp ap:sn}{hs:List Sl}{cs:lq}{gl:List Bool}{dl c m:List Int}{cn cc gn gc dn dc an ac:Nat}{v:Int}
theorem CT(l:Int):(s.decide l).R .tr=s.R .tr++ [l]:=by
 unfold aH.decide;rw[sQ];unfold aH.kP;rw[aq (by simp),aq (by simp)]
end
section
variable{cs:lq}{c d T T':List Int}{κ:Int->Int}
def Rm(T:List Int):Prop:=∀x∈T,-x ∉ T
def TD(cs:lq)(T:List Int):Prop:=∀c∈cs,cS c T=false/\dz c T=0
def NZ(cs:lq):Prop:=∀c∈cs,∀x∈c,x≠0
def vo(c:List Int):List Int:=c.map λx=> -x
theorem sH{x:Int}:x∈vo c↔ -x∈c:=by
 unfold vo;rw[LV];exact⟨λ⟨y,I,e⟩=>by rw[<- e,WJ];exact I,λh=>⟨-x,h,WJ x⟩⟩
theorem DF(h:DJ cs d T):∀x∈d,x∈T:=by
 induction h with
 |refl=>exactλ_ h=>h
 |step _ _ _ ih=>exactλx I=>Wq _ (ih x I)
theorem E2(h:∀x∈T,x∈T')(hb:cS c T=true):cS c T'=true:=cU.2 λx I=>h _ (cU.1 hb x I)
theorem Nq(U:∀x∈c,x≠0)(h1:cS c T'=false)(O:dz c T'=0)(Q:Rm T')(hs:∀x∈T,x∈T')(hu:dz c T≠0):dz c T∈T':=by
 obtain⟨a1,a2,a3,a4⟩:=oR U hu;rcases Y6 (dz c T∈T') with h|h
 .exact h
 .exfalso;have hn: -(dz c T) ∉ T':=λe=>by
   rw[<- WI,cU]at h1;exact h1 λy J=> (a4 y J).elim (λI=>by rw[I];exact e) λI=>hs _ I
  have:=oD (t:=T') (l:=dz c T) hu hn c 0 (λy J=>by
   rcases a4 y J with e|e
   .exact ⟨by rw[e];exact h,.inl e⟩
   .exact ⟨λI=>Q y I (hs _ e),.inr (hs _ e)⟩) (.inr ⟨rfl,a1⟩)
  unfold dz at O;rw[O]at this;exact hu this.symm
theorem PI(Y:NZ cs)(Q:TD cs T')(U:Rm T')(V:∀x∈d,x∈T')(h:DJ cs d T):∀x∈T,x∈T':=by
 induction h with
 |refl=>exact V
 |step h1 J X O=>
  intro x I;rcases y4.1 I with I|I
  .exact O x I
  .rw [xv]at I;rw[I];exact Nq (Y _ J) (Q _ J).1 (Q _ J).2 U O X
theorem DK(Q:NZ cs)(O:Rm d)(h:DJ cs d T):Rm T:=by
 induction h with
 |refl=>exact O
 |step h1 h2 h3 J=>
  rename_i t c;obtain⟨_,a2,a3,_⟩:=oR (Q _ h2) h3;intro x I e;rcases y4.1 I with I|I
  .rcases y4.1 e with e|e
   .exact J x I e
   .rw [xv]at e;exact a3 (by rw[<- e,WJ];exact I)
  .rw [xv]at I;rcases y4.1 e with e|e
   .rw [I]at e;exact a3 e
   .rw [xv]at e;omega
def IW(cs:lq)(T:List Int):Nat:=(cs.filter λc=> !c.any λx=>decide (x∈T)).length
theorem Bp(Q:NZ cs)(J:c∈cs)(hu:dz c T≠0):IW cs (T++ [dz c T])<IW cs T:=by
 obtain⟨a1,a2,a3,a4⟩:=oR (Q _ J) hu;unfold IW;have I:(cs.filter λc'=> !c'.any λx=>decide (x∈T++ [dz c T])).length< (cs.filter λc'=> !c'.any λx=>decide (x∈T)).length:=by
  rw[<- YA,<- YA];have key:∀l:lq,c∈l->l.countP (λc'=> !c'.any λx=>decide (x∈T++ [dz c T]))<l.countP (λc'=> !c'.any λx=>decide (x∈T)):=by
   intro l;have le:∀l:lq,l.countP (λc'=> !c'.any λx=>decide (x∈T++ [dz c T]))<=l.countP (λc'=> !c'.any λx=>decide (x∈T)):=λl=>by
    refine YD λx _ h=>?_;simp only[WU,List.any_eq_false,x7]at h ⊢;exactλy O e=>h y O (Wq _ e)
   induction l with
   |nil=>intro h;simp at h
   |cons y l U=>
    intro h;rw[WX,WX];rcases V'.1 h with h|h
    .subst h;have X:(!c.any λx=>decide (x∈T++ [dz c T]))=false:=by
      simp only[Xx,Xk,x7];exact⟨_,a1,by simp⟩
     have V:(!c.any λx=>decide (x∈T))=true:=by
      simp only[WU,List.any_eq_false,x7];intro y O e;obtain⟨a,b⟩:=vJ c 0 (Q _ J) hu;exact(a y O).1 e
     have:=le l;rw[X,V,r8 (by simp),v8 rfl];omega
    .have:=U h;have hm:(if (!y.any λx=>decide (x∈T++ [dz c T]))=true then 1 else 0)<=if (!y.any λx=>decide (x∈T))=true then 1 else 0:=by
      have:=le [y];simpa[WX]using this
     omega
  exact key cs J
 exact I
theorem y7(O:NZ cs):∀ (n:Nat) (T:List Int),IW cs T<=n->DJ cs d T->∃T',DJ cs d T'/\((∃x∈cs,cS x T'=true)\/TD cs T'):=by
 intro n
 induction n with
 |zero=>
  intro T h J;rcases Y6 (∃x∈cs,cS x T=true) with hb|hb
  .exact ⟨T,J,.inl hb⟩
  .refine ⟨T,J,.inr λc I=>⟨by rw[<- WI];exactλe=>hb ⟨c,I,e⟩,?_⟩⟩;rcases Y6 (dz c T=0) with e|e
   .exact e
   .have:=Bp O I e;omega
 |succ n ih=>
  intro T h J;rcases Y6 (∃x∈cs,cS x T=true) with hb|hb
  .exact ⟨T,J,.inl hb⟩
  rcases Y6 (∃c∈cs,dz c T≠0) with⟨c,I,e⟩|hn
  .have:=Bp O I e;exact ih _ (by omega) (.step J I e)
  .exact ⟨T,J,.inr λc I=>⟨by rw[<- WI];exactλe=>hb ⟨c,I,e⟩,Wj λe=>hn ⟨c,I,e⟩⟩⟩
def uB(cs:lq)(c:List Int):Prop:=nh c=true\/∃T,DJ cs (vo c) T/\∃x∈cs,cS x T=true
theorem mJ:nh c=true↔∃x∈c,-x∈c:=by unfold nh;simp
theorem Bi(h:nh c=false):Rm (vo c):=by
 intro x I e;rw[<- WI,mJ]at h;rw[sH]at I e;rw[WJ]at e;exact h ⟨x,e,I⟩
theorem Dr(U:NZ cs)(h:nh c=false)(O:DJ cs (vo c) T)(Q:TD cs T): ¬uB cs c:=by
 rintro(J| ⟨T',I,x,V,hb⟩)
 .rw [h]at J;cases J
 .have:=E2 (PI U Q (DK U (Bi h) O) (DF O) I) hb;rw[(Q x V).1]at this;cases this
theorem AP(V:NZ cs)(h:nh c=false)(I:DJ cs (vo c) T)(U:(∃x∈cs,cS x T=true)\/TD cs T):uB cs c↔∃x∈cs,cS x T=true:=by
 rcases U with hb|J
 .exact ⟨λ_=>hb,λ_=> .inr ⟨T,I,hb⟩⟩
 .refine ⟨λO=>absurd O (Dr V h I J),λ⟨x,Q,hb⟩=>?_⟩;rw[(J x Q).1]at hb;cases hb
theorem Ej{s:aH}(g:aL s){r:Int}(ht:U7 s r)(J:∀x,x∈cs↔s.BD x)(U:nh c=false)(h1:∀x∈c,-x∈s.R .tr)(h2:∀x∈s.wL,-x∈c):r>=0↔uB cs c:=by
 have X:NZ cs:=λx I y hy=> (g.R2 ((J x).1 I) y hy).1;obtain⟨T,V,Y⟩:=y7 (cs:=cs) (d:=vo c) X _ _ (vy _) .refl;rw[AP X U V Y];have Q:=DK X (Bi U) V;have O:=DF V;rcases ht with⟨rfl,hC⟩| ⟨i,rfl,Z⟩
 .have hs:=hC.U8 g (λx I=> (J x).1 I) (λx I=>by rw[sH]at I;have:=h1 _ I;rwa [WJ]at this) V;refine⟨λh=>by omega,λ⟨x,I,hb⟩=>?_⟩;rw[hC.Ky g hs ((J x).1 I)]at hb;cases hb
 .refine ⟨λ_=>?_,λ_=>by omega⟩;rcases Y with hb|hE
  .exact hb
  .exfalso;have hs:=g.xz (T:=T) (λx I=>O x (sH.2 (h2 x I))) Q λc hc=>hE c ((J c).2 hc);have:=(hE _ ((J _).2 ⟨i,Z.1,rfl⟩)).1;rw[<- WI,cU]at this;exact this λx I=>hs _ (Z.2 x I)
structure BT(N:Int->Prop)(κ:Int->Int):Prop where
 neg:∀x,κ (-x)= -κ x
 inj:∀x y,N x->N y->κ x=κ y->x=y
 nz:∀x,N x->κ x≠0
 sym:∀x,N x->N (-x)
 n0: ¬N 0
theorem BT.z{N:Int->Prop}(h:BT N κ):κ 0=0:=by have:=h.neg 0;simp at this;omega
theorem BT.mem{N:Int->Prop}(h:BT N κ){x:Int}(I:N x)(O:∀y∈T,N y):κ x∈T.map κ↔x∈T:=by
 rw[LV];exact⟨λ⟨y,J,e⟩=>by rw[<- h.inj y x (O y J) I e];exact J,λI=>⟨x,I,rfl⟩⟩
theorem BT.zT{N:Int->Prop}(h:BT N κ){x:Int}(I:N x)(J:∀y∈T,N y): -κ x∈T.map κ↔ -x∈T:=by rw[<- h.neg];exact h.mem (h.sym x I) J
theorem BT.G_{N:Int->Prop}(h:BT N κ)(Q:∀y∈T,N y):∀ (c:List Int) (o:Int),(∀x∈c,N x)->(o=0\/N o)->kH (T.map κ) (c.map κ) (κ o)=κ (kH T c o)
 | [],o,_,_=>rfl
 |x::c,o,hc,I=>by
  have J:=hc x (Wb ..);have O:∀y∈c,N y:=λy Y=>hc y (xk _ Y);rw[Xj];unfold kH;have U:κ x∈T.map κ↔x∈T:=h.mem J Q;have V:(-κ x∈T.map κ\/κ x=κ o)↔(-x∈T\/x=o):=by
   rw[h.zT J Q];refine or_congr Yb ⟨λe=>?_,λe=>by rw[e]⟩;rcases I with rfl|I
   .rw [h.z]at e;exact absurd e (h.nz x J)
   .exact h.inj x o J I e
  have X:κ o≠0↔o≠0:=by
   rcases I with rfl|I
   .rw [h.z]
   .exact ⟨λ_ e=>h.n0 (e▸I),λ_=>h.nz o I⟩
  by_cases a1:x∈T
  .rw [v8 (U.2 a1),v8 a1,h.z]
  .rw [r8 (λe=>a1 (U.1 e)),r8 a1];by_cases a2: -x∈T\/x=o
   .rw [v8 (V.2 a2),v8 a2];exact h.G_ Q c o O I
   .rw [r8 (λe=>a2 (V.1 e)),r8 a2];by_cases a3:o≠0
    .rw [v8 (X.2 a3),v8 a3,h.z]
    .rw [r8 (λe=>a3 (X.1 e)),r8 a3];exact h.G_ Q c x O (.inr J)
theorem BT.HE{N:Int->Prop}(h:BT N κ)(J:∀y∈T,N y)(I:∀x∈c,N x):dz (c.map κ) (T.map κ)=κ (dz c T):=by
 have:=h.G_ J c 0 I (.inl rfl);rw[h.z]at this;exact this
theorem BT.ri{N:Int->Prop}(h:BT N κ)(O:∀y∈T,N y)(J:∀x∈c,N x):cS (c.map κ) (T.map κ)=cS c T:=by
 rw[W4,cU,cU];constructor
 .intro hb x I;exact(h.zT (J x I) O).1 (hb _ (WA I))
 .intro hb y Q;obtain⟨x,I,rfl⟩:=LV.1 Q;exact(h.zT (J x I) O).2 (hb x I)
theorem BT.Jr{N:Int->Prop}(h:BT N κ)(J:∀x∈c,N x):nh (c.map κ)=nh c:=by
 rw[W4,mJ,mJ];constructor
 .rintro ⟨y,Q,O⟩;obtain⟨x,I,rfl⟩:=LV.1 Q;exact⟨x,I,(h.zT (J x I) J).1 O⟩
 .rintro ⟨x,I,O⟩;exact⟨κ x,WA I,(h.zT (J x I) J).2 O⟩
theorem Mr{N:Int->Prop}(X:NZ cs)(J:∀c∈cs,∀x∈c,N x)(U:∀x∈d,N x)(h:DJ cs d T):∀x∈T,N x:=by
 induction h with
 |refl=>exact U
 |step h1 O V Q=>
  intro x I;rcases y4.1 I with I|I
  .exact Q x I
  .rw [xv]at I;rw[I];exact J _ O _ (oR (X _ O) V).1
theorem BT.U8{N:Int->Prop}(h:BT N κ)(O:NZ cs)(I:∀c∈cs,∀x∈c,N x)(U:∀x∈d,N x)(Q:DJ cs d T):DJ (cs.map (List.map κ)) (d.map κ) (T.map κ):=by
 induction Q with
 |refl=>exact .refl
 |step h1 h2 h3 ih=>
  rename_i t c;have J:=Mr O I U h1;rw[GD,Yj,<- h.HE J (I _ h2)];refine .step ih (WA h2) ?_;rw[h.HE J (I _ h2)];exact h.nz _ (I _ h2 _ (oR (O _ h2) h3).1)
theorem BT.UY{N:Int->Prop}(h:BT N κ)(c:List Int):vo (c.map κ)=(vo c).map κ:=by
 unfold vo;rw[XW,XW];exact WT λx _=> (h.neg x).symm
theorem BT.VB{N:Int->Prop}(h:BT N κ)(J:∀c∈cs,∀x∈c,N x)(Z:∀x∈c,N x):uB (cs.map (List.map κ)) (c.map κ)↔uB cs c:=by
 have X:NZ cs:=λx O y hy e=>h.n0 (e▸J x O y hy);have hn:∀x∈vo c,N x:=λx O=>by rw[sH]at O;have:=h.sym _ (Z _ O);rwa [WJ]at this
 cases ht:nh c with
 |true=>exact⟨λ_=> .inl ht,λ_=> .inl (by rw[h.Jr Z];exact ht)⟩
 |false=>
  have ag:NZ (cs.map (List.map κ)):=λx O y hy=>by
   obtain⟨Y,I,rfl⟩:=LV.1 O;obtain⟨y',ar,rfl⟩:=LV.1 hy;exact h.nz _ (J _ I _ ar)
  obtain⟨T,hF,hT⟩:=y7 (cs:=cs) (d:=vo c) X _ _ (vy _) .refl;have Q:=Mr X J hn hF;have U:=h.U8 X J hn hF;rw[<- h.UY]at U;rw[AP X ht hF hT];have V:(∃x∈cs.map (List.map κ),cS x (T.map κ)=true)↔∃x∈cs,cS x T=true:=by
   constructor
   .rintro ⟨x,O,hb⟩;obtain⟨Y,I,rfl⟩:=LV.1 O;exact⟨Y,I,by rwa [h.ri Q (J _ I)]at hb⟩
   .rintro ⟨x,O,hb⟩;exact⟨_,WA O,by rwa [h.ri Q (J _ O)]⟩
  rw[AP ag (by rw[h.Jr Z];exact ht) U (hT.imp (λe=>V.2 e) λhE x O=>?_),V];obtain⟨Y,I,rfl⟩:=LV.1 O;rw[h.ri Q (J _ I),h.HE Q (J _ I),(hE _ I).2,h.z];exact⟨(hE _ I).1,rfl⟩
end
section
variable{w w' w0 w2 w3:World}{p q:sn}{n m c d:Nat}{l t T:List Int}{hs:List Sl}{cs:lq}
theorem rz{x:Int}(h:cC x=true): -1048576<=x/\x<=1048576:=by
 unfold cC at h;simp only[x7]at h;exact⟨h.2.1,h.2.2⟩
theorem JI{x:Int}(h:cC x=true):x≠0:=by
 unfold cC at h;simp only[x7]at h;exact h.1
def BS(k c:List Int):List Int:=k++wo c (-(k.getD 0 0))
def fB(cs:lq)(k:List Int):Prop:=k≠[]/\∀c∈cs,-(k.getD 0 0)∈c->(BS k c).length<=4096/\uB cs (BS k c)
end
end Go.Proofs.YtbdghpjnifjlmaaGreat.W
namespace Go.Fw
open Go Go.RowKit Go.MapKept
variable{P:Program}{α:Type}{g:α->Value}{t k e:TypeId}{w w':World}{b:Nat}{m:List (Int × α)}
def Dt(P:Program)(t k e:TypeId):Bool:=
 (match P.underlying t with|some (.map J I)=>Nat.beq J k && Nat.beq I e|_=>false) && (match P.underlying k with|some (.int .i64)=>true|_=>false)
theorem qA(h:Dt P t k e=true):P.underlying t=some (.map k e)/\P.underlying k=some (.int .i64):=by
 simp only[Dt,ts]at h;obtain⟨h1,I⟩:=h;constructor
 .split at h1
  .rename_i O J hu;simp only[ts]at h1;rw[hu,V_ h1.1,V_ h1.2]
  .simp at h1
 .split at I
  .assumption
  .simp at I
def al(m:List (Int × α))(a:Int):Option α:=(m.find? λx=>x.1==a).map (·.2)
def ai(m:List (Int × α))(a:Int)(v:α):List (Int × α):=if (al m a).isSome then m.map (λx=>if x.1=a then (a,v) else x) else m++ [(a,v)]
def ad(m:List (Int × α))(a:Int):List (Int × α):=m.filter λx=> !(x.1==a)
theorem qY{a:Int}:al m a=none↔∀x∈m,x.1≠a:=by
 unfold al;rw[Option.map_eq_none_iff,List.find?_eq_none];simp
theorem Dv{a:Int}{x:α}(h:al m a=some x):(a,x)∈m:=by
 unfold al at h;rw[Xf]at h;obtain⟨y,h1,rfl⟩:=h;have I:=YT h1;have J:=YP h1;have:y.1=a:=by simpa using I
 rw[<- this];exact J
theorem Uu(nd:(m.map (·.1)).Nodup){a:Int}{x:α}(h:(a,x)∈m):al m a=some x:=by
 cases ha:al m a with
 |none=>exact absurd rfl (qY.1 ha (a,x) h)
 |some y=>
  have O:=Dv ha;obtain⟨i,hi,J⟩:=Bs.1 h;obtain⟨j,Q,I⟩:=Bs.1 O;have:=(XE (h₀:=show i< (m.map (·.1)).length by simpa using hi) (h₁:=show j< (m.map (·.1)).length by simpa using Q) nd).1 (by rw[XH,XH,J,I]);subst this;rw[J]at I;rw[(YV I).2]
theorem QX(m:List (Int × α))(a:Int)(v:α):(ai m a v).map (·.1)=if (al m a).isSome then m.map (·.1) else m.map (·.1)++ [a]:=by
 unfold ai;split
 .rw [XW];refine WT λx _=>?_;simp only[Function.comp];split
  .rename_i h;exact h.symm
  .rfl
 .simp
theorem vX(nd:(m.map (·.1)).Nodup)(a:Int)(v:α):((ai m a v).map (·.1)).Nodup:=by
 rw[QX];split
 .exact nd
 .rename_i h;have h:al m a=none:=by simpa using h
  rw[Xu];refine⟨nd,by simp,λx J y I e=>?_⟩;rw[xv]at I;obtain⟨z,O,rfl⟩:=LV.1 J;exact qY.1 h z O (e.trans I)
theorem Dk(m:List (Int × α))(a u:Int)(v:α):al (ai m a v) u=if u=a then some v else al m u:=by
 unfold ai;split
 .rename_i h;unfold al;rw[List.find?_map];by_cases e:u=a
  .subst e;rw[v8 rfl];have hf:m.find? ((λx:Int × α=>x.1==u) ∘ λx=>if x.1=u then (u,v) else x)=m.find? λx=>x.1==u:=by
    congr 1;funext x;simp only[Function.comp];split<;>simp_all
   rw[hf];unfold al at h;cases I:m.find? λx=>x.1==u with
   |none=>rw[I]at h;simp at h
   |some y=>have:=YT I;simp at this;simp[this]
  .rw [r8 e];have hf:m.find? ((λx:Int × α=>x.1==u) ∘ λx=>if x.1=a then (a,v) else x)=m.find? λx=>x.1==u:=by
    congr 1;funext x;simp only[Function.comp];by_cases J:x.1=a
    .rw [v8 J,J]
    .rw [r8 J]
   rw[hf];cases I:m.find? λx=>x.1==u with
   |none=>rfl
   |some y=>
    have h1:=YT I;have h1:y.1=u:=by simpa using h1
    have: ¬y.1=a:=λJ=>e (h1.symm.trans J);simp[this]
 .rename_i h;have h:al m a=none:=by simpa using h
  unfold al;rw[List.find?_append];by_cases e:u=a
  .subst e;rw[v8 rfl];unfold al at h;rw[Option.map_eq_none_iff]at h;rw[h];simp
  .rw [r8 e];cases I:m.find? λx=>x.1==u with
   |some y=>simp
   |none=>simp[WL e]
theorem T8(m:List (Int × α))(a u:Int):al (ad m a) u=if u=a then none else al m u:=by
 by_cases e:u=a
 .subst e;rw[v8 rfl,qY];intro x I;unfold ad at I;rw[WC]at I;simpa using I.2
 .rw [r8 e];unfold al ad;rw[List.find?_filter];congr 1;congr 1;funext x;by_cases h:x.1=u
  .rw [h];simp[e]
  .simp [h]
theorem Fe(nd:(m.map (·.1)).Nodup)(a:Int):((ad m a).map (·.1)).Nodup:=nd.sublist (List.filter_sublist.map _)
def MV(g:α->Value)(w:World)(b:Nat)(m:List (Int × α)):Prop:=
 (∃I clock,w.heap[b]? =some (.map I clock)/\I.toList.map (λe=> (e.key,e.val))=m.map λx=> (Value.int .i64 x.1,g x.2))/\(m.map (·.1)).Nodup
theorem MV.lt(h:MV g w b m):b<w.heap.size:=by obtain⟨⟨I,c,h,_⟩,_⟩:=h;exact(Xb.1 h).1
theorem MV.keep{S:Nat->Prop}(h:MV g w b m)(m':aE S w w')(hs: ¬S b):MV g w' b m:=by
 have hl:=h.lt;obtain⟨⟨I,c,h,he⟩,nd⟩:=h;exact⟨⟨I,c,(m'.block b hl hs).trans h,he⟩,nd⟩
theorem MV.grow(h:MV g w b m)(m':ak w w'):MV g w' b m:=h.keep m' id
theorem MV.drew(h:MV g w b m):MV g w.drew b m:=h
theorem MV.new{b:Nat}(h:jz (.map #[] 0) w b w'):MV g w' b []:=⟨⟨#[],0,h.at,rfl⟩,by simp⟩
theorem MV.len(hm:Dt P t k e=true)(h:MV g w b m)(ty:TypeId):(Builtin.len_ #[t] ty #[.map (some b)]).run P w=.ok (.i m.length) w:=by
 obtain⟨ht,_⟩:=qA hm;obtain⟨⟨I,c,hb,he⟩,_⟩:=h;have:I.size=m.length:=by have:=congrArg List.length he;simpa using this
 simp[Builtin.len_,run_underlying ht,MapKept.run_getObj_map hb,Result.andThen,goInt,this]
theorem MV.find(h:MV g w b m)(a:Int):∃I c,w.heap[b]? =some (.map I c)/\I.toList.map (λe=> (e.key,e.val))=(m.map λx=> (Value.int .i64 x.1,g x.2))/\
 ((Instr.findNow (.int .i64) (.i a) I.toList 0=some none/\al m a=none)\/∃j x e,Instr.findNow (.int .i64) (.i a) I.toList 0=some (some (j,g x))/\I[j]? =some e/\e.key=.i a/\m[j]? =some (a,x)/\al m a=some x):=by
 obtain⟨⟨I,c,hb,he⟩,nd⟩:=h;refine⟨I,c,hb,he,?_⟩;have get:∀ (j:Nat) (e:MapEntry),I.toList[j]? =some e->∃x:Int × α,m[j]? =some x/\e.key=.i x.1/\e.val=g x.2:=by
  intro j e Q;have:=congrArg (·[j]?) he;simp only[WW,Q,Xw]at this;cases hm:m[j]? with
  |none=>rw[hm]at this;simp at this
  |some x=>
   rw[hm]at this;simp at this;exact⟨x,rfl,this⟩
 have V:∀x∈I.toList,IsKey (.int .i64) x.key:=by
  intro x O;obtain⟨j,Q,e⟩:=Bs.1 O;obtain⟨y,_,h1,_⟩:=get j x (by rw[V9 Q,e]);rw[h1];rfl
 rcases findNow_spec (d:=.int .i64) (show IsKey (.int .i64) (.i a) from rfl) I.toList 0 V with⟨h1,U⟩| ⟨j,e,h1,U,X⟩
 .refine .inl ⟨h1,qY.2 λx O=>?_⟩;obtain⟨j,Q,e⟩:=Bs.1 O;have hlen:I.toList.length=m.length:=by have:=congrArg List.length he;simpa using this
  obtain⟨y,J,h5,_⟩:=get j I.toList[j] (by rw[V9 (by omega)]);rw[V9 Q,e]at J;have J:=WS J;have:=U _ (XF (show j<I.toList.length by omega));rw[h5,<- J]at this;exactλZ=>this (by rw[Z])
 .obtain ⟨x,J,h5,Y⟩:=get j e U;have O:x.1=a:=by rw[h5]at X;injection X
  refine .inr ⟨j,x.2,e,by rw[h1,<- Y,Wr],by simpa using U,X,by rw[J,<- O],Uu nd ?_⟩;rw[<- O];exact Zb J
theorem MV.cY(hm:Dt P t k e=true)(h:MV g w b m)(a:Int){z:Value}(Q:(zeroValue e).run P w=.ok z w):
 (Instr.lookup t (.map (some b)) (.i a) false).run P w=.ok (((al m a).map g).getD z) w:=by
 obtain⟨ht,J⟩:=qA hm;obtain⟨X,c,hb,he,hf⟩:=h.find a;have I:IsKey (.int .i64) (.i a):=rfl;rcases hf with⟨h1,O⟩| ⟨j,x,e,h1,O,V,U,h5⟩
 .simp [Instr.lookup,run_underlying ht,MapKept.run_getObj_map hb,MapKept.run_checkKey J I,MapKept.run_findKey J h1,Q,Result.andThen,O]
 .simp [Instr.lookup,run_underlying ht,MapKept.run_getObj_map hb,MapKept.run_checkKey J I,MapKept.run_findKey J h1,Result.andThen,h5]
theorem MV.Sv(hm:Dt P t k e=true)(h:MV g w b m)(a:Int){z:Value}(Q:(zeroValue e).run P w=.ok z w):
 (Instr.lookup t (.map (some b)) (.i a) true).run P w=.ok (.tuple #[((al m a).map g).getD z,.bool (al m a).isSome]) w:=by
 obtain⟨ht,J⟩:=qA hm;obtain⟨X,c,hb,he,hf⟩:=h.find a;have I:IsKey (.int .i64) (.i a):=rfl;rcases hf with⟨h1,O⟩| ⟨j,x,e,h1,O,V,U,h5⟩
 .simp [Instr.lookup,run_underlying ht,MapKept.run_getObj_map hb,MapKept.run_checkKey J I,MapKept.run_findKey J h1,Q,Result.andThen,O]
 .simp [Instr.lookup,run_underlying ht,MapKept.run_getObj_map hb,MapKept.run_checkKey J I,MapKept.run_findKey J h1,Result.andThen,h5]
theorem Ev{w:World}{b:Nat}(o:Obj):aE (·=b) w {w with heap:=w.heap.setIfInBounds b o}:=
 ⟨rfl,rfl,rfl,by simp,λx _ I=>by simp[XS (WL I)]⟩
theorem MV.put(hm:Dt P t k e=true)(h:MV g w b m)(a:Int)(v:α):
 ∃w',(Instr.mapUpdate t (.map (some b)) (.i a) (g v)).run P w=.ok () w'/\MV g w' b (ai m a v)/\aE (·=b) w w'/\w'.heap.size=w.heap.size:=by
 obtain⟨ht,Y⟩:=qA hm;have nd:=h.2;have ag:=h.lt;obtain⟨V,c,hb,he,hf⟩:=h.find a;have J:IsKey (.int .i64) (.i a):=rfl;rcases hf with⟨h1,X⟩| ⟨j,x,e,h1,X,h3,Z,h5⟩
 .refine ⟨_,?_,⟨⟨V.push {key:=.i a,val:=g v,born:=c},c+1,(MapKept.heap_set hb).1,?_⟩,vX nd a v⟩,Ev _,by simp⟩
  .simp [Instr.mapUpdate,run_underlying ht,MapKept.run_getObj_map hb,MapKept.run_checkKey Y J,MapKept.run_findKey Y h1,MapKept.run_setObj_map _ hb,Result.andThen]
  .unfold ai;rw[X];simp only[Option.isSome_none,Xo,I8,Array.toList_push,GD,he,Xj,Zw]
 .refine ⟨_,?_,⟨⟨V.modify j λe=> {e with key:=.i a,val:=g v},c,(MapKept.heap_set hb).1,?_⟩,vX nd a v⟩,Ev _,by simp⟩
  .simp [Instr.mapUpdate,run_underlying ht,MapKept.run_getObj_map hb,MapKept.run_checkKey Y J,MapKept.run_findKey Y h1,X,h3,run_keyThatStays J,MapKept.run_setObj_map _ hb,Result.andThen]
  .unfold ai;rw[h5];simp only[Option.isSome_some,I5,Array.toList_modify];apply Xr;intro i;have hi:=congrArg (·[i]?) he;simp only[WW]at hi;simp only[WW,List.getElem?_modify];by_cases e2:j=i
   .subst e2;rw[Z]at hi ⊢;have:V.toList[j]? =some e:=by simpa using X
    rw[this];simp
   .cases I:m[i]? with
    |none=>rw[I]at hi;cases O:V.toList[i]? with
     |none=>simp
     |some z=>rw[O]at hi;simp at hi
    |some y=>
     rw[I]at hi;cases O:V.toList[i]? with
     |none=>rw[O]at hi;simp at hi
     |some z=>
      rw[O]at hi;simp at hi;have:y.1≠a:=λe3=>by
       have Q:i<m.length:=(Ws.1 I).1;have U:j<m.length:=(Ws.1 Z).1;have:=(XE (h₀:=show i< (m.map (·.1)).length by simpa using Q) (h₁:=show j< (m.map (·.1)).length by simpa using U) nd).1 (by
        rw[XH,XH];rw[V9 Q]at I;rw[V9 U]at Z;rw[WS I,WS Z];exact e3)
       omega
      simp[e2,this,hi]
theorem MV.del(hm:Dt P t k e=true)(h:MV g w b m)(a:Int)(ty:TypeId):
 ∃w',(Builtin.delete_ #[t,k] ty #[.map (some b),.i a]).run P w=.ok (.tuple #[]) w'/\MV g w' b (ad m a)/\aE (·=b) w w'/\w'.heap.size=w.heap.size:=by
 obtain⟨ht,Q⟩:=qA hm;have nd:=h.2;obtain⟨O,c,hb,he,hf⟩:=h.find a;have I:IsKey (.int .i64) (.i a):=rfl;rcases hf with⟨h1,U⟩| ⟨j,x,e,h1,U,h3,h4,h5⟩
 .refine ⟨_,?_,⟨⟨O,c,(MapKept.heap_set hb).1,?_⟩,Fe nd a⟩,Ev _,by simp⟩
  .simp [Builtin.delete_,run_underlying ht,MapKept.run_getObj_map hb,MapKept.run_checkKey Q I,MapKept.run_findKey Q h1,MapKept.run_setObj_map _ hb,Result.andThen]
  .have:ad m a=m:=by
    unfold ad;rw[Yq];intro x Z;have:=qY.1 U x Z;simpa using this
   rw[this,he]
 .have V:j<O.size:=(Xb.1 U).1;have J:(O.eraseIdxIfInBounds j).toList=O.toList.eraseIdx j:=by
   unfold Array.eraseIdxIfInBounds;rw[dif_pos V];simp
  refine⟨_,?_,⟨⟨O.eraseIdxIfInBounds j,c,(MapKept.heap_set hb).1,?_⟩,Fe nd a⟩,Ev _,by simp⟩
  .simp [Builtin.delete_,run_underlying ht,MapKept.run_getObj_map hb,MapKept.run_checkKey Q I,MapKept.run_findKey Q h1,MapKept.run_setObj_map _ hb,Result.andThen]
  .rw [J,Go.ChangeMaps.map_eraseIdx,he];have key:∀ (m:List (Int × α)) (j:Nat) (x:α),(m.map (·.1)).Nodup->m[j]? =some (a,x)->m.eraseIdx j=ad m a:=by
    intro m
    induction m with
    |nil=>intro j x _ h;simp at h
    |cons y m Y=>
     intro j x nd h;rw[Xj,Ym]at nd;cases j with
     |zero=>
      simp at h;subst h;simp only[List.eraseIdx_zero,List.tail_cons];unfold ad;rw[Yh];simp only[BEq.rfl,Bool.not_true,Xo,I8];symm;rw[Yq];intro z hz;have:z.1≠a:=λe=>nd.1 (LV.2 ⟨z,hz,e⟩);simpa using this
     |succ j=>
      simp only[WV]at h;have X:y.1≠a:=λe=>nd.1 (LV.2 ⟨_,Zb h,e.symm⟩);rw[List.eraseIdx_cons_succ,Y j x nd.2 h];unfold ad;rw[Yh];simp[X]
   rw[<- Go.ChangeMaps.map_eraseIdx,key m j x nd h4]
end Go.Fw
namespace Go.Proofs.YtbdghpjnifjlmaaGreat.W
open Go Go.Fw Go.RowKit Go.SoP Go.LiP
open Go.Proofs.Tryz (prog)
section
variable{W w w' w0 w2 w3:World}{nb b ib ab:Nat}{vars:Int}{id:List (Int × Int)}{H H' H2:Pt->Sl}{s t u s':aH}{lp:sn}{lc:Nat}{ls:List Int}{sm:List (Int × Sl)}{cl:Int->List Int}{cp:sn}{n cc:Nat}{c:List Int}
def dx(id:List (Int × Int))(x:Int):Int:=if x<0 then -((al id (bo x)).getD 0) else (al id (bo x)).getD 0
structure yE(id:List (Int × Int)):Prop where
 nd:(id.map (·.1)).Nodup
 rQ:∀j,j<id.length->(id.getD j (0,0)).2=((j+1:Nat):Int)
 U3:∀x∈id,1<=x.1/\x.1<=1048576
theorem PC{l:List Int}{B:Nat}(nd:l.Nodup)(h:∀x∈l,1<=x/\x<=B):l.length<=B:=by
 have hs:=WR nd (l₂:=(List.range B).map λj:Nat=> (j:Int)+1) λy I=>by
  have:=h y I;exact LV.2 ⟨(y - 1).toNat,Wv.2 (by omega),by show (((y - 1).toNat:Nat):Int)+1=_;omega⟩
 rwa [We,Xt]at hs
theorem yE.le{id:List (Int × Int)}(h:yE id):id.length<=1048576:=by
 have:=PC (l:=id.map (·.1)) (B:=1048576) h.nd λx I=>by
  obtain⟨y,J,rfl⟩:=LV.1 I;exact h.U3 y J
 rwa [We]at this
def Nt(id:List (Int × Int))(x:Int):Prop:=x≠0/\(al id (bo x)).isSome
theorem yE.get(h:yE id){x:Int}{v:Int}(hv:al id x=some v):∃j,j<id.length/\id.getD j (0,0)=(x,v)/\v=((j+1:Nat):Int):=by
 obtain⟨j,I,e⟩:=Bs.1 (Dv hv);have e:id.getD j (0,0)=(x,v):=by simp[List.getD,I,e]
 have:=h.rQ j I;rw[e]at this;exact⟨j,I,e,this⟩
theorem PV{x:Int}(I:x≠0):dx id (-x)= -dx id x:=by
 unfold dx;rw[pz];by_cases h:x<0
 .rw [r8 (by omega),v8 h];omega
 .rw [v8 (by omega),r8 h]
theorem yE.dx(h:yE id):BT (Nt id) (dx id):=by
 have O:al id 0=none:=qY.2 λx I=>by have:=h.U3 x I;omega
 have val:∀x,Nt id x->∃v j:Nat,al id (bo x)=some (v:Int)/\v=j+1/\j<id.length/\id.getD j (0,0)=(bo x,(v:Int)):=λx I=>by
  obtain⟨v,hv⟩:=Xl.1 I.2;obtain⟨j,Q,e,rfl⟩:=h.get hv;exact⟨j+1,j,hv,rfl,Q,e⟩
 refine⟨λx=>?_,λx y I Y e=>?_,λx I=>?_,λx I=>⟨by have:=I.1;omega,by rw[pz];exact I.2⟩,λh=>h.1 rfl⟩
 .by_cases I:x=0
  .subst I;unfold Go.Proofs.YtbdghpjnifjlmaaGreat.W.dx;have:bo 0=0:=by decide
   simp[this,O]
  .exact PV I
 .obtain ⟨v,j,h1,X,h3,V⟩:=val x I;obtain⟨v',j',U,ar,ag,J⟩:=val y Y;unfold Go.Proofs.YtbdghpjnifjlmaaGreat.W.dx at e;rw[h1,U]at e;simp only[Wn]at e;have Q:j=j'/\(x<0↔y<0):=by
   split at e<;>split at e<;>omega
  have ha:bo x=bo y:=by
   rw[Q.1]at V;rw[V]at J;exact(YV J).1
  have:=I.1;rcases Eh ha with Z|Z<;>omega
 .obtain ⟨v,j,h1,X,_,_⟩:=val x I;unfold Go.Proofs.YtbdghpjnifjlmaaGreat.W.dx;rw[h1];simp only[Wn];split<;>omega
theorem yE.tI(h:yE id){x:Int}(I:Nt id x):dZ id.length (Go.Proofs.YtbdghpjnifjlmaaGreat.W.dx id x):=by
 obtain⟨v,hv⟩:=Xl.1 I.2;obtain⟨j,J,e,rfl⟩:=h.get hv;unfold Go.Proofs.YtbdghpjnifjlmaaGreat.W.dx dZ;rw[hv];simp only[Wn];split<;>omega
structure RB(W w:World)(nb b ib ab:Nat)(vars:Int)(id:List (Int × Int))(H:Pt->Sl)(s:aH)(lp:sn)(lc:Nat)(ls:List Int)(sm:List (Int × Sl))(cl:Int->List Int):Prop where
 st:bO w nb #[.i vars,.map (some ib),cj b,.slice lp ls.length lc,.map (some ab)]
 pm:PM w b H s
 g:aL s
 im:MV sT w ib id
 am:MV Sl.v w ab sm
 lo:d_ aB w lp lc ls
 rw:∀x∈sm,x.2.n=(cl x.1).length/\x.2.n<=maxLen/\Vw sT w x.2.p (cl x.1)
 d1:∀x k,own b H x=some k->k≠nb/\k≠ib/\k≠ab/\aF lp≠some k
 d2:nb≠ib/\nb≠ab/\ib≠ab/\aF lp≠some nb/\aF lp≠some ib/\aF lp≠some ab
 d3:∀x∈sm,0<x.2.n->∀k,aF x.2.p=some k->k≠nb/\k≠ib/\k≠ab/\aF lp≠some k/\∀y,own b H y≠some k
 wg:ak W w
 wy:W.heap.size<=nb/\W.heap.size<=ib/\W.heap.size<=ab/\(∀k,aF lp=some k->W.heap.size<=k)/\∀x k,own b H x=some k->W.heap.size<=k
 be:s.R .be= []
 rQ:yE id
 sv:s.vars=id.length
 nd:ls.Nodup
 th:∀i:Nat,s.aN i↔(i:Int)∈ls
 l0:∀i∈ls,0<=i
 lk:∀i∈ls,(al sm i).isSome
 cd:∀i:Nat,s.aN i->s.R (.a i)=(cl i).map (dx id)
 lt:∀i∈ls,∀x∈cl i,cC x=true/\Nt id x
 ln:∀i∈ls,(cl i).length<=4096
 QW:∀x∈sm,0<=x.1/\x.1<s.nc
 ll:ls.length<=s.nc
theorem RB.grow(h:RB W w nb b ib ab vars id H s lp lc ls sm cl)(m:ak w w'):RB W w' nb b ib ab vars id H s lp lc ls sm cl:=
 ⟨h.st.grow m,h.pm.grow m,h.g,h.im.grow m,h.am.grow m,h.lo.grow m,λx I=>⟨(h.rw x I).1,(h.rw x I).2.1,(h.rw x I).2.2.grow m⟩,h.d1,h.d2,h.d3,h.wg.trans m,h.wy,h.be,h.rQ,h.sv,h.nd,h.th,h.l0,h.lk,h.cd,h.lt,h.ln,h.QW,h.ll⟩
theorem RB.drew(h:RB W w nb b ib ab vars id H s lp lc ls sm cl):RB W w.drew nb b ib ab vars id H s lp lc ls sm cl:=h.grow (aE.refl w).drew
theorem RB.wU(h:RB W w nb b ib ab vars id H s lp lc ls sm cl)(P:Pw w w' b H H' s')(g:aL s')(hv:s'.vars=s.vars)(hn:s'.nc=s.nc)(hg:s'.gone=s.gone)(ha:∀i,s'.R (.a i)=s.R (.a i))(hb:s'.R .be= []):
 RB W w' nb b ib ab vars id H' s' lp lc ls sm cl:=by
 have no:∀ {k:Nat},(∀x,own b H x≠some k)->¬∃x,own b H x=some k:=λh ⟨x,e⟩=>h x e;have Z:∀x,own b H x≠some nb:=λx e=> (h.d1 x _ e).1 rfl;have n2:∀x,own b H x≠some ib:=λx e=> (h.d1 x _ e).2.1 rfl;have n3:∀x,own b H x≠some ab:=λx e=> (h.d1 x _ e).2.2.1 rfl;have Q:∀i,s'.aN i↔s.aN i:=λi=>by unfold aH.aN;rw[hn,hg]
 have ag:=h.st.lt;refine⟨h.st.keep P.mod (no Z),P.pm,g,h.im.keep P.mod (no n2),h.am.keep P.mod (no n3),h.lo.keep P.mod λk I ⟨x,e⟩=> (h.d1 x k e).2.2.2 I,λx J=>?_,λx k I=>?_,h.d2,λx J h0 k I=>?_,h.wg.then P.mod λk I ⟨x,e⟩=>?_,⟨h.wy.1,h.wy.2.1,h.wy.2.2.1,h.wy.2.2.2.1,λx k I=>?_⟩,hb,h.rQ,hv.trans h.sv,h.nd,λi=> (Q i).trans (h.th i),h.l0,h.lk,λi hi=>by rw[ha];exact h.cd i ((Q i).1 hi),h.lt,h.ln,λx J=>by rw[hn];exact h.QW x J,by rw[hn];exact h.ll⟩
 .obtain ⟨O,Y,X⟩:=h.rw x J;refine⟨O,Y,X.mK P.mod λV k I ⟨y,e⟩=> (h.d3 x J (by rw[O];exact Wx.2 V) k I).2.2.2.2 y e⟩
 .rcases P.ft x k I with⟨y,e⟩|e
  .exact h.d1 y k e
  .have l1:=h.st.lt;have l2:=h.im.lt;have l3:=h.am.lt;exact⟨by omega,by omega,by omega,λU=>by have:=h.lo.lt k U;omega⟩
 .obtain ⟨a1,a2,a3,a4,a5⟩:=h.d3 x J h0 k I;refine⟨a1,a2,a3,a4,λy e=>?_⟩;rcases P.ft y k e with⟨z,U⟩|U
  .exact a5 z U
  .obtain ⟨O,_,X⟩:=h.rw x J;have:=X.lt (λe3=>by rw[e3]at O;simp at O;omega) k I;omega
 .have:=h.wy.2.2.2.2 x k e;omega
 .rcases P.ft x k I with⟨y,e⟩|e
  .exact h.wy.2.2.2.2 y k e
  .have:=h.wg.size;omega
theorem lg:Dt prog dW aB aB=true:=by kernel_rfl
theorem Lz:Dt prog pJ aB aI=true:=by kernel_rfl
theorem JG{e:TypeId}{z:Value}(h:(Tryz.prog.info? e).bind (·.zero)=some z)(w:World):(zeroValue e).run prog w=.ok z w:=by
 cases hi:Tryz.prog.info? e with
 |none=>rw[hi]at h;simp at h
 |some i=>
  rw[hi]at h;simp at h;unfold zeroValue;simp only[Sem.run_bind,eS hi,Result.andThen_ok,h,Sem.run_pure]
theorem rV(w:World):(zeroValue aB).run prog w=.ok (.i 0) w:=JG iC w
theorem Pn(w:World):(zeroValue aI).run prog w=.ok (.slice none 0 0) w:=JG JA w
theorem yN(h:RB W w nb b ib ab vars id H s lp lc ls sm cl)(hc:Vw sT w cp c)(hn:n=c.length)(hx:n<=100000)(hl:∀x∈c,cC x=true):
 Calls prog 144 #[cj nb,.slice cp n cc] w λe w'=>∃ (q:sn) (d:Nat),e=.returned (.slice q c.length d)/\d_ aB w' q d (c.map (dx id))/\ak w w'/\∀k,aF q=some k->w.heap.size<=k:=by
 subst hn;refine jY.aj ?_;refine⟨λP N C I u z=>∃i:Nat,I=i/\i<=c.length/\z=c.length - i/\N=((c.take i).map (dx id)).length/\d_ aB u P C ((c.take i).map (dx id))/\(∀k,aF P=some k->w.heap.size<=k)/\ak w u,
  ⟨_,0,rfl,xc _,rfl,by simp,Ow.nil _ _ _,λk hk=>by simp[aF]at hk,aE.refl w⟩,?_⟩
 rintro P N C I u z _⟨i,rfl,hi,rfl,rfl,o,fP,Y⟩;have hlen:((c.take i).map (dx id)).length=i:=by simp;omega
 refine ah (λr=>?_) (λr=>?_)
 .have r:i<c.length:=by simpa using r
  refine(hc.grow Y).ix 0 (by omega) rfl (by omega) λa e=>⟨_,e,_,rfl,_,ae (h.st.grow Y) rfl,?_⟩
  rw[tn];have ar:=hl _ (bL r);have hb:=rz ar;have hs:(c.take (i+1)).map (dx id)=(c.take i).map (dx id)++ [dx id (c.getD i 0)]:=by
   rw[Wo,GD];simp[List.getD,r]
  generalize c.getD i 0=X at*
  have ea:imax X (IntKind.i64.wrap (0 - X))=bo X:=by
   rw[nw X hb];unfold imax bo;split<;>split<;>omega
  rw[ea];have Z:=(h.im.grow Y).cY lg (bo X) (rV u);have aa:((al id (bo X)).map sT).getD (.i 0)=.i ((al id (bo X)).getD 0):=by cases al id (bo X)<;>rfl
  rw[aa]at Z;have a7:0<=(al id (bo X)).getD 0/\(al id (bo X)).getD 0<=1048576:=by
   cases hv:al id (bo X) with
   |none=>simp
   |some v=>
    obtain⟨j,hj,_,rfl⟩:=h.rQ.get hv;have:=h.sv;have:=h.g.eM;simp only[Wn];omega
  refine⟨_,_,Z,ah (λQ=>?_) (λQ=>?_)⟩
  .have Q:X<0:=by simpa using Q
   intro ag aw J;rw[nw _ (by omega)]at J;refine xa (W0:=w) (o.grow J.mod) (Y.trans J.mod) fP (S_ J) rfl rfl (by rw[hlen];simp;omega) λay az ax O U f15=>?_;have V:dx id X= -((al id (bo X)).getD 0):=by unfold dx;rw[v8 Q]
   rw[<- V]at O;refine⟨_,by omega,i+1,wN,r,rfl,by rw[hs];simp,by rw[hs];exact O,f15,U⟩
  .have Q: ¬X<0:=by simpa using Q
   intro ag aw J;refine xa (W0:=w) (o.grow J.mod) (Y.trans J.mod) fP (S_ J) rfl rfl (by rw[hlen];simp;omega) λay az ax O U f15=>?_;have V:dx id X=(al id (bo X)).getD 0:=by unfold dx;rw[r8 Q]
   rw[<- V]at O;refine⟨_,by omega,i+1,wN,r,rfl,by rw[hs];simp,by rw[hs];exact O,f15,U⟩
 .have r:i=c.length:=by simp at r;omega
  subst r;rw[L0]at o hlen;exact⟨P,C,by rw[L0,hlen],o,Y,fP⟩
end
section
variable{W w w' w0 w2 w3:World}{nb b ib ab:Nat}{vars:Int}{id:List (Int × Int)}{H H' H2:Pt->Sl}{s t u s':aH}{lp:sn}{lc:Nat}{ls:List Int}{sm:List (Int × Sl)}{cl:Int->List Int}{cp:sn}{n cc:Nat}{c:List Int}
structure zF(s s':aH):Prop where
 v:s'.vars=s.vars
 n:s'.nc=s.nc
 g:s'.gone=s.gone
 a:∀i,s'.R (.a i)=s.R (.a i)
theorem zF.refl(s:aH):zF s s:=⟨rfl,rfl,rfl,λ_=>rfl⟩
theorem zF.trans(h:zF s t)(k:zF t u):zF s u:=⟨k.v.trans h.v,k.n.trans h.n,k.g.trans h.g,λi=> (k.a i).trans (h.a i)⟩
theorem zF.decide(s:aH)(l:Int):zF s (s.decide l):=by
 obtain⟨J,O,Q,I⟩:=F5 (s:=s) l;exact⟨J,O,Q,I⟩
theorem zF.ext(h:jI s t):zF s t:=⟨h.v,h.n,h.g,h.a⟩
theorem zF.bV(s:aH)(L:Nat):zF s (s.bV L):=by
 obtain⟨J,O,Q,I,_⟩:=xD (s:=s) L;exact⟨J,O,Q,I⟩
theorem zF.lN(h:zF s t){i:Nat}:t.aN i↔s.aN i:=by unfold aH.aN;rw[h.n,h.g]
theorem Cj(s:aH)(l:Int):(s.decide l).R .be=s.R .be++ [((s.R .tr).length:Int)]:=by
 unfold aH.decide;rw[kO (by simp) (by simp) (by simp) (by simp)];unfold aH.kP;rw[aq (by simp),aQ]
theorem RB.BD(h:RB W w nb b ib ab vars id H s lp lc ls sm cl)(k:zF s t)(x:List Int):x∈(ls.map cl).map (List.map (dx id))↔t.BD x:=by
 unfold aH.BD;rw[XW,LV];constructor
 .rintro ⟨i,hi,rfl⟩;have J:=h.l0 i hi;have I:s.aN i.toNat:=(h.th _).2 (by rw[XQ J];exact hi);refine⟨i.toNat,k.lN.2 I,?_⟩;rw[k.a,h.cd _ I,XQ J];rfl
 .rintro ⟨i,hi,rfl⟩;have I:=k.lN.1 hi;exact⟨(i:Int),(h.th i).1 I,by rw[k.a,h.cd _ I];rfl⟩
structure Rd(s s':aH)(id:List (Int × Int))(c:List Int)(j:Nat):Prop where
 g:aL s'
 k:zF s s'
 dt:s'.wL=s'.R .tr
 bt:(s'.R .be).length=(s'.R .tr).length
 b0:s'.R .be≠[]->(s'.R .be).getD 0 0=0
 fw:∀x∈c.take j,-dx id x∈s'.R .tr
 bw:∀y∈s'.R .tr,∃x∈c.take j,y= -dx id x
theorem Gn{u:FrameMode}(h:PM w b H s)(g:aL s)(bM:Int):CallsD prog 143 #[cj b,.i bM] u w λe I w'=>I=u/\e=.returned (.tuple #[])/\∃H',Pw w w' b H H' (if (max 0 bM).toNat< (s.R .be).length then s.bV (max 0 bM).toNat else s):=
 cq.Tg (R:=λe w'=>e=.returned (.tuple #[])/\∃H',Pw w w' b H H' (if (max 0 bM).toNat< (s.R .be).length then s.bV (max 0 bM).toNat else s)) (N5 h g bM)
theorem RB.RH(h:RB W w nb b ib ab vars id H s lp lc ls sm cl)(P:Pw w w2 b H H2 t)(g:aL t)(k:zF s t)(Q:t.R .be≠[]->(t.R .be).getD 0 0=0){R:World->Prop}
 (U:∀w' H' s',RB W w' nb b ib ab vars id H' s' lp lc ls sm cl->Pw w w' b H H' s'->s'.nc=s.nc->(t.R .be≠[]->s'.R .tr= [])->R w'):
 CallsD prog 143 #[cj b,.i 0] .returning w2 λe u w'=>u=.returning/\∃v:Value,e=.returned v/\R w':=by
 refine(Gn P.pm g 0).mono ?_;rintro e u w'⟨rfl,rfl,H',V⟩;refine⟨rfl,_,rfl,?_⟩;have Z:(max (0:Int) 0).toNat=0:=rfl;rw[Z]at V;have J:=P.trans V;by_cases hb:0< (t.R .be).length
 .rw [v8 hb]at J;have I:=Q (Wx.1 hb);obtain⟨_,_,_,_,Y,X⟩:=xD (s:=t) 0;have O:=k.trans (zF.bV t 0);refine U _ _ _ (h.wU J (l4 g hb) O.v O.n O.g O.a (by rw[Y];rfl)) J O.n λ_=>?_;rw[X,I];rfl
 .rw [r8 hb]at J;have I:t.R .be= []:=Wa (by omega);exact U _ _ _ (h.wU J g k.v k.n k.g k.a I) J k.n λe=>absurd I e
theorem IN(h:RB W w nb b ib ab vars id H s lp lc ls sm cl)(ar:s.R .tr= [])(hc:Vw sT w cp c)(hn:n=c.length)(J:n<=100000)(hl:∀x∈c,cC x=true)(hN:∀x∈c,Nt id x):
 Calls prog 98 #[cj nb,.slice cp n cc] w λe w'=>∃r:Bool,e=.returned (.bool r)/\(r=true↔uB (ls.map cl) c)/\∃H' s',RB W w' nb b ib ab vars id H' s' lp lc ls sm cl/\Pw w w' b H H' s'/\s'.nc=s.nc/\(c≠[]->s'.R .tr= []):=by
 have C:=h.rQ.dx;refine gE.aj ⟨_,rfl,_,ae h.st rfl,(yN h hc hn J hl).mono ?_⟩;rintro e w3⟨q,d,rfl,o3,g3,f3⟩;have h3:=h.grow g3;have sv:=h.sv;have hinv:∀x∈c,dZ s.vars (dx id x):=λx J=>by rw[sv];exact h.rQ.tI (hN x J)
 have b5:∀ {k:Nat},aF q=some k->∀x,own b H x≠some k:=λhk x e=>by have:=f3 _ hk;have:=h.pm.lt x _ e;omega
 have az:∀i,i∈ls->∀x∈cl i,Nt id x:=λi hi x J=> (h.lt i hi x J).2;have b_:uB ((ls.map cl).map (List.map (dx id))) (c.map (dx id))↔uB (ls.map cl) c:=C.VB (λx J y O=>by
  obtain⟨i,hi,rfl⟩:=LV.1 J;exact az i hi y O) hN
 refine⟨_,_,_,rfl,?_⟩;refine⟨λI u z=>∃j:Nat,I=j/\j<=c.length/\z=c.length - j/\∃H' s',Pw w3 u b H H' s'/\Rd s s' id c j,⟨_,0,rfl,xc _,rfl,H,s,Pw.refl h3.pm (aE.refl _),
  ⟨h.g,.refl s,by unfold aH.wL;rw[h.be,ar];rfl,by rw[h.be,ar],λe=>absurd h.be e,λx J=>by simp at J,λy O=>by rw[ar]at O;simp at O⟩⟩,?_⟩
 rintro I u z _⟨j,rfl,hj,rfl,H1,Q,P1,R⟩;have bk:Vw sT u q (c.map (dx id)):=o3.vw.mK P1.mod λ_ k hk ⟨x,e⟩=>b5 hk x e;have aw:bO u nb _:=h3.st.keep P1.mod λ⟨x,e⟩=> (h.d1 x _ e).1 rfl;have k1:=R.g.wf;refine ah (λr=>?_) (λr=>?_)
 .have r:j<c.length:=by simpa using r
  have hm:=bL r;have b6:(c.map (dx id)).getD j 0=dx id (c.getD j 0):=by simp[List.getD,r]
  have tk:∀x,x∈c.take (j+1)↔x∈c.take j\/x=c.getD j 0:=λx=>fz r;refine bk.ix 0 (by omega) (by simp) (by omega) λa e=>⟨_,e,_,rfl,_,ae aw rfl,?_⟩
  rw[tn,b6];generalize hX:c.getD j 0=X at*
  have hv:dZ Q.vars (dx id X):=by rw[R.k.v];exact hinv X hm
  refine(Br P1.pm k1 _).mono ?_;rintro e b7⟨rfl,a_⟩;have Z:=P1.grow a_;have a':Q.value (dx id X)=Q.val (dx id X):=by
   unfold aH.value;rw[(iX R.g.eM).2 hv];rfl
  rw[a'];refine⟨_,rfl,ah (λr1=>?_) (λr1=>ah (λr2=>?_) (λr2=>?_))⟩
  .have r1:Q.val (dx id X)=1:=by simpa using r1
   have V:=(R.g.v1 _ hv).1 r1;obtain⟨x',av,e⟩:=R.bw _ V;have aa:=Wh av;have ex:X= -x':=C.inj _ _ (hN X hm) (C.sym _ (hN x' aa)) (by rw[C.neg];exact e);have U:Q.R .be≠[]:=λe2=>by
    have:=R.bt;rw[e2]at this;have:=Wa this.symm;rw[this]at V;simp at V
   refine h3.RH Z R.g R.k R.b0 λw' H' s' hB hP hn ht=>⟨true,rfl,⟨λ_=> .inl (mJ.2 ⟨x',aa,ex▸hm⟩),λ_=>rfl⟩,H',s',hB,hP.df g3,hn,λ_=>ht U⟩
  .have r2:Q.val (dx id X)=0:=by simpa using r2
   refine⟨_,rfl,_,ae (aw.grow a_) rfl,?_⟩;rw[nw _ (hv.bd R.g.eM)];have a8:Q.val (-dx id X)=0:=by rw[pN hv,r2];rfl
   refine(wP Z.pm R.g (-dx id X)).mono ?_;rintro e bY⟨r,rfl,H',hd⟩;obtain⟨rfl,P⟩:r=0/\Pw b7 bY b H1 H' (Q.decide (-dx id X)):=hd.elim (λh=>⟨h.1,h.2.2.2⟩) λh=>absurd ⟨hv.neg,a8⟩ h.2.1;have Y:=CT (s:=Q) (-dx id X);have aT:=Cj Q (-dx id X);refine⟨_,rfl,_,by omega,j+1,wN,r,rfl,H',_,Z.trans P,⟨px R.g hv.neg a8,R.k.trans (.decide Q _),by rw[zD R.g,R.dt,Y],by rw[aT,Y];simp[R.bt],λ_=>?_,λx J=>?_,λy O=>?_⟩⟩
   .rw [aT];cases U:Q.R .be with
    |nil=>
     have:=R.bt;rw[U]at this;rw[<- this];rfl
    |cons y l=>
     have:=R.b0 (by rw[U];simp);rw[U]at this;simpa using this
   .rw [Y];rcases(tk x).1 J with J|rfl
    .exact Wq _ (R.fw x J)
    .simp
   .rw [Y]at O;rcases y4.1 O with O|O
    .obtain ⟨x,J,e⟩:=R.bw y O;exact⟨x,(tk x).2 (.inl J),e⟩
    .rw [xv]at O;exact⟨X,(tk X).2 (.inr rfl),O⟩
  .have r1: ¬Q.val (dx id X)=1:=by simpa using r1
   have r2: ¬Q.val (dx id X)=0:=by simpa using r2
   have bn:Q.val (dx id X)= -1:=by
    rcases aH.rD k1 (dx id X) with e|e|e
    .exact absurd e r2
    .exact absurd e r1
    .exact e
   have V:=(R.g.vm hv).1 bn;refine⟨_,by omega,j+1,wN,r,rfl,H1,Q,Z,⟨R.g,R.k,R.dt,R.bt,R.b0,λx J=>?_,λy O=>?_⟩⟩
   .rcases (tk x).1 J with J|rfl
    .exact R.fw x J
    .exact V
   .obtain ⟨x,J,e⟩:=R.bw y O;exact⟨x,(tk x).2 (.inl J),e⟩
 .have r:j=c.length:=by simp at r;omega
  subst r;refine⟨_,rfl,_,ae aw rfl,(GQ P1.pm R.g).mono ?_⟩;rintro e c1⟨r,rfl,s2,H2,P2,g2,x,ht⟩;have PP:=P1.trans P2;have kk:=R.k.trans (.ext x);have fw:∀x∈c,-dx id x∈Q.R .tr:=λx J=>R.fw x (by rw[L0];exact J);have bw:∀y∈Q.R .tr,∃x∈c,y= -dx id x:=λy O=>by
   obtain⟨x,J,e⟩:=R.bw y O;exact⟨x,Wh J,e⟩
  have bu:nh (c.map (dx id))=false:=by
   rw[<- WI,C.Jr hN,mJ];rintro⟨x,J,av⟩;have a1:=fw x J;have a2:=fw _ av;rw[C.neg,WJ]at a2;exact R.g.cons a2 a1
  have a6:s2.wL=Q.R .tr:=by rw[IG R.g x,R.dt]
  have key:=Ej (cs:=(ls.map cl).map (List.map (dx id))) g2 ht (λx=>h.BD kk x) bu (λy O=>by
   obtain⟨z,hz,rfl⟩:=LV.1 O;exact x.mem (fw z hz)) (λy O=>by
   rw[a6]at O;obtain⟨z,hz,rfl⟩:=bw y O;rw[WJ];exact WA hz)
  refine⟨_,rfl,h3.RH PP g2 kk (by rw[x.be];exact R.b0) λw' H' s' hB hP hn ht=>⟨_,rfl,?_,H',s',hB,hP.df g3,hn,λb8=>ht ?_⟩⟩
  .rw [x7,key,b_]
  .rw [x.be];intro e2;have:=R.bt;rw[e2]at this;have bb:=Wa this.symm;have:=fw _ (List.head_mem b8);rw[bb]at this;simp at this
end
section
variable{W w w' w0 w2 w3:World}{nb b ib ab:Nat}{vars:Int}{id:List (Int × Int)}{H H' H2:Pt->Sl}{s t u s':aH}{lp:sn}{lc:Nat}{ls:List Int}{sm:List (Int × Sl)}{cl:Int->List Int}{cp:sn}{n cc:Nat}{c:List Int}
theorem RB.cY(h:RB W w nb b ib ab vars id H s lp lc ls sm cl){J:Int}(Q:J∈ls):∃sl:Sl,al sm J=some sl/\(Instr.lookup pJ (.map (some ab)) (.i J) false).run prog w=.ok (.slice sl.p sl.n sl.c) w/\(J,sl)∈sm/\sl.n=(cl J).length/\Vw sT w sl.p (cl J):=by
 obtain⟨sl,I⟩:=Xl.1 (h.lk J Q);obtain⟨U,X,V⟩:=h.rw (J,sl) (Dv I);have O:=h.am.cY Lz J (Pn w);rw[I]at O;exact⟨sl,I,O,Dv I,U,V⟩
theorem Pr(l:List Int)(y x:Int):wo (l++ [y]) x=wo l x++ (if y=x then [] else [y]):=by
 unfold wo;rw[Yi,Yh,Ze];by_cases e:y=x
 .subst e;simp
 .simp [e]
theorem Oa(h:RB W w nb b ib ab vars id H s lp lc ls sm cl)(bi:s.R .tr= [])(hc:Vw sT w cp c)(hn:n=c.length)(hx:n<=90000)(hl:∀x∈c,cC x=true)(hN:∀x∈c,Nt id x)(ho:c≠[]->∀k,aF cp=some k->∀x,own b H x≠some k):
 Calls prog 99 #[cj nb,.slice cp n cc] w λe w'=>∃r:Bool,e=.returned (.bool r)/\(r=true↔fB (ls.map cl) c)/\∃H' s',RB W w' nb b ib ab vars id H' s' lp lc ls sm cl/\Pw w w' b H H' s'/\s'.nc=s.nc/\s'.R .tr= []:=by
 subst hn;refine fG.aj (ah (λr=>?_) (λr=>?_))
 .have r:c= []:=by
   have:(c.length:Int)=0:=by simpa using r
   exact Wa (by omega)
  exact⟨false,rfl,⟨λe=> (by cases e),λh=>absurd r h.1⟩,H,s,h,Pw.refl h.pm (aE.refl w),rfl,bi⟩
 have U:0<c.length:=by
  have:(c.length:Int)≠0:=by simpa using r
  omega
 have ax:c≠[]:=Wx.1 U;have bY:=rz (hl _ (bL U));refine⟨_,rfl,_,_,_,ae h.st rfl,?_⟩;refine⟨λI u z=>∃i:Nat,I=i/\i<=ls.length/\z=ls.length - i/\(∃H1 s1,RB W u nb b ib ab vars id H1 s1 lp lc ls sm cl/\Pw w u b H H1 s1/\s1.nc=s.nc/\s1.R .tr= [])/\
  ∀j∈ls.take i,-(c.getD 0 0)∈cl j->(BS c (cl j)).length<=4096/\uB (ls.map cl) (BS c (cl j)),
  ⟨_,0,rfl,xc _,rfl,⟨H,s,h,Pw.refl h.pm (aE.refl w),rfl,bi⟩,λj hj=>by simp at hj⟩,?_⟩
 rintro I u z _⟨i,rfl,hi,rfl,⟨H1,s1,h1,P1,n1,t1⟩,Q⟩;have co:Vw sT u cp c:=hc.mK P1.mod λU k hk ⟨x,e⟩=>ho U k hk x e;refine ah (λr=>?_) (λr=>?_)
 .have r:i<ls.length:=by simpa using r
  have hm:=bL r;have tk:∀x,x∈ls.take (i+1)↔x∈ls.take i\/x=ls.getD i 0:=λx=>fz r;refine h1.lo.vw.ix 0 (by omega) rfl (by omega) λa e=>⟨_,e,?_⟩
  rw[tn];generalize hJ:ls.getD i 0=J at*
  have hd:=h1.drew;obtain⟨sl,b8,cm,d8,bn,bf⟩:=hd.cY hm;have d':=h1.ll;have dh:=h1.g.Lj;have dd:=h1.ln J hm;refine⟨λv=>v=u.drew,rfl,_,rfl,_,λv e=>e▸ae hd.st rfl,_,_,_,_,cm,rfl,co.ix 0 (by omega) rfl (by omega) λa2 e2=>⟨_,λv e=>by subst e;exact e2,?_⟩⟩;try dsimp only
  rw[show ((0:Int).toNat)=0 from rfl,nw _ bY];refine(xH bf bn (by rw[bn];unfold maxLen;omega) _).mono ?_;rintro e Z⟨rfl,aT⟩;have Y:=P1.grow (((aE.refl u).drew:ak u u.drew).trans aT);have ni:=hd.grow aT;refine⟨_,rfl,ah (λr2=>?_) (λr2=>?_)⟩
  .have r2: -(c.getD 0 0) ∉ cl J:=by simpa using r2
   refine⟨_,by omega,i+1,wN,r,rfl,⟨H1,s1,ni,Y,n1,t1⟩,λj hj h2=>?_⟩;rcases(tk j).1 hj with h3|rfl
   .exact Q j h3 h2
   .exact absurd h2 r2
  .have r2: -(c.getD 0 0)∈cl J:=by simpa using r2
   have aw:Vw sT Z cp c:=hc.mK Y.mod λU k hk ⟨x,e⟩=>ho U k hk x e;refine(iA aw rfl (by omega)).mono ?_;rintro e d9⟨q,d,rfl,ce,a6,f19⟩;have a_:=ni.grow a6;have d4:=Y.grow a6;obtain⟨sl2,bb,bg,_,X,_⟩:=a_.cY hm;obtain rfl:sl=sl2:=WS (b8.symm.trans bb);have bu:=bf.grow aT;refine⟨q,_,d,rfl,_,rfl,_,ae a_.st rfl,_,_,_,_,bg,?_⟩;refine⟨λP N C I u z=>∃k:Nat,I=k/\k<=(cl J).length/\z=(cl J).length - k/\N=(c++wo ((cl J).take k) (-(c.getD 0 0))).length/\d_ aB u P C (c++wo ((cl J).take k) (-(c.getD 0 0)))/\(∀y,aF P=some y->Z.heap.size<=y)/\ak Z u,
    ⟨_,0,rfl,xc _,rfl,by simp[wo],by simpa[wo]using ce,f19,a6⟩,?_⟩
   rintro P N C I v z _⟨k,rfl,hk,rfl,rfl,o,f,g⟩;have hv:=ni.grow g;have cb:=aw.grow g;refine ah (λV=>?_) (λV=>?_)
   .have V:k< (cl J).length:=by rw[X]at V;simpa using V
    have b9:=Tf (l:=(cl J).take k) (x:= -(c.getD 0 0));rw[y6]at b9;refine(bu.grow g).ix 0 (by omega) X (by omega) λa3 e3=>⟨_,e3,cb.ix 0 (by omega) rfl (by omega) λa4 e4=>⟨_,e4,?_⟩⟩
    try dsimp only
    rw[show ((0:Int).toNat)=0 from rfl,nw _ bY,tn];have b7:(cl J).take (k+1)=(cl J).take k++ [(cl J).getD k 0]:=by
     rw[Wo];simp[List.getD,V]
    have ew:wo ((cl J).take (k+1)) (-(c.getD 0 0))=wo ((cl J).take k) (-(c.getD 0 0))++ (if (cl J).getD k 0= -(c.getD 0 0) then [] else [(cl J).getD k 0]):=by
     rw[b7];exact Pr _ _ _
    refine ah (λO=>?_) (λO=>?_)
    .have O: ¬(cl J).getD k 0= -(c.getD 0 0):=by simpa using O
     intro dB dk ay;rw[r8 O]at ew;refine xa (W0:=Z) (o.grow ay.mod) (g.trans ay.mod) f (S_ ay) rfl rfl (by simp only[I',WG];omega) λea dq dA bx b' f37=>?_;rw[WH,<- ew]at bx;refine⟨_,by omega,k+1,wN,V,rfl,by rw[ew,WH],bx,f37,b'⟩
    .have O:(cl J).getD k 0= -(c.getD 0 0):=by simpa using O
     rw[v8 O,W9]at ew;exact⟨_,by omega,k+1,wN,V,rfl,by rw[ew],by rw[ew];exact o,f,g⟩
   .have V:k=(cl J).length:=by rw[X]at V;simp at V;omega
    subst V;rw[L0]at o ⊢;have Pv:=Y.grow g;have er:c++wo (cl J) (-(c.getD 0 0))=BS c (cl J):=rfl;rw[er]at o ⊢;refine ah (λO=>?_) (λO=>?_)
    .have O:(BS c (cl J)).length>4096:=by rw[x7]at O;omega
     refine⟨false,rfl,⟨λe=> (by cases e),λh=>?_⟩,H1,s1,hv,Pv,n1,t1⟩;have:=(h.2 _ (WA hm) r2).1;omega
    .have O:(BS c (cl J)).length<=4096:=by rw[x8]at O;omega
     have ar:∀x∈BS c (cl J),cC x=true/\Nt id x:=λx hx=>by
      unfold BS at hx;rcases y4.1 hx with h|h
      .exact ⟨hl x h,hN x h⟩
      .exact h1.lt J hm x (sV.1 h).1
     refine(IN hv t1 o.vw rfl (by omega) (λx hx=> (ar x hx).1) (λx hx=> (ar x hx).2)).mono ?_;rintro e d5⟨r,rfl,hr,H2,s2,h2,P2,n2,t2⟩;have t2:=t2 (by unfold BS;simp[ax]);have PP:=Pv.trans P2;refine⟨_,rfl,ah (λr5=>⟨false,rfl,⟨λe=> (by cases e),λh=>?_⟩,H2,s2,h2,PP,n2.trans n1,t2⟩) (λr5=>⟨_,by omega,i+1,wN,by omega,rfl,⟨H2,s2,h2,PP,n2.trans n1,t2⟩,λj hj h3=>?_⟩)⟩
     .have:=hr.2 (h.2 _ (WA hm) r2).2;rw[this]at r5;cases r5
     .rcases (tk j).1 hj with h4|rfl
      .exact Q j h4 h3
      .exact ⟨O,hr.1 (by simpa using r5)⟩
 .have r:i=ls.length:=by simp at r;omega
  subst r;rw[L0]at Q;exact⟨true,rfl,⟨λ_=>⟨ax,λx hx=>by
   obtain⟨j,hj,rfl⟩:=LV.1 hx;exact Q j hj⟩,λ_=>rfl⟩,H1,s1,h1,P1,n1,t1⟩
end
section
variable{W w w' w0 w2 w3:World}{nb b ib ab:Nat}{vars:Int}{id id':List (Int × Int)}{H H' H2:Pt->Sl}{s t u s':aH}{lp:sn}{lc:Nat}{ls:List Int}{sm:List (Int × Sl)}{cl:Int->List Int}{cp:sn}{n cc:Nat}{c:List Int}
structure RM(W w:World)(nb b ib ab:Nat)(vars:Int)(id:List (Int × Int))(H:Pt->Sl)(s:aH)(lp:sn)(lc:Nat)(ls:List Int)(sm:List (Int × Sl))(cl:Int->List Int):Prop where
 st:bO w nb #[.i vars,.map (some ib),cj b,.slice lp ls.length lc,.map (some ab)]
 pm:PM w b H s
 im:MV sT w ib id
 am:MV Sl.v w ab sm
 lo:d_ aB w lp lc ls
 rw:∀x∈sm,x.2.n=(cl x.1).length/\x.2.n<=maxLen/\Vw sT w x.2.p (cl x.1)
 d1:∀x k,own b H x=some k->k≠nb/\k≠ib/\k≠ab/\aF lp≠some k
 d2:nb≠ib/\nb≠ab/\ib≠ab/\aF lp≠some nb/\aF lp≠some ib/\aF lp≠some ab
 d3:∀x∈sm,0<x.2.n->∀k,aF x.2.p=some k->k≠nb/\k≠ib/\k≠ab/\aF lp≠some k/\∀y,own b H y≠some k
 wg:ak W w
 wy:W.heap.size<=nb/\W.heap.size<=ib/\W.heap.size<=ab/\(∀k,aF lp=some k->W.heap.size<=k)/\∀x k,own b H x=some k->W.heap.size<=k
def FP(nb ib ab b:Nat)(H:Pt->Sl)(lp:sn)(k:Nat):Prop:=k=nb\/k=ib\/k=ab\/aF lp=some k\/∃x,own b H x=some k
structure RL(id:List (Int × Int))(s:aH)(ls:List Int)(sm:List (Int × Sl))(cl:Int->List Int):Prop where
 g:aL s
 be:s.R .be= []
 rQ:yE id
 sv:s.vars=id.length
 nd:ls.Nodup
 th:∀i:Nat,s.aN i↔(i:Int)∈ls
 l0:∀i∈ls,0<=i
 lk:∀i∈ls,(al sm i).isSome
 cd:∀i:Nat,s.aN i->s.R (.a i)=(cl i).map (dx id)
 lt:∀i∈ls,∀x∈cl i,cC x=true/\Nt id x
 ln:∀i∈ls,(cl i).length<=4096
 QW:∀x∈sm,0<=x.1/\x.1<s.nc
 ll:ls.length<=s.nc
theorem RB.of(m:RM W w nb b ib ab vars id H s lp lc ls sm cl)(l:RL id s ls sm cl):RB W w nb b ib ab vars id H s lp lc ls sm cl:=
 ⟨m.st,m.pm,l.g,m.im,m.am,m.lo,m.rw,m.d1,m.d2,m.d3,m.wg,m.wy,l.be,l.rQ,l.sv,l.nd,l.th,l.l0,l.lk,l.cd,l.lt,l.ln,l.QW,l.ll⟩
theorem RB.rm(h:RB W w nb b ib ab vars id H s lp lc ls sm cl):RM W w nb b ib ab vars id H s lp lc ls sm cl:=
 ⟨h.st,h.pm,h.im,h.am,h.lo,h.rw,h.d1,h.d2,h.d3,h.wg,h.wy⟩
theorem RB.rl(h:RB W w nb b ib ab vars id H s lp lc ls sm cl):RL id s ls sm cl:=
 ⟨h.g,h.be,h.rQ,h.sv,h.nd,h.th,h.l0,h.lk,h.cd,h.lt,h.ln,h.QW,h.ll⟩
theorem RM.wU(h:RM W w nb b ib ab vars id H s lp lc ls sm cl)(P:Pw w w' b H H' s'):RM W w' nb b ib ab vars id H' s' lp lc ls sm cl:=by
 have no:∀ {k:Nat},(∀x,own b H x≠some k)->¬∃x,own b H x=some k:=λh ⟨x,e⟩=>h x e;have Y:∀x,own b H x≠some nb:=λx e=> (h.d1 x _ e).1 rfl;have n2:∀x,own b H x≠some ib:=λx e=> (h.d1 x _ e).2.1 rfl;have n3:∀x,own b H x≠some ab:=λx e=> (h.d1 x _ e).2.2.1 rfl;refine⟨h.st.keep P.mod (no Y),P.pm,h.im.keep P.mod (no n2),h.am.keep P.mod (no n3),h.lo.keep P.mod λk I ⟨x,e⟩=> (h.d1 x k e).2.2.2 I,λx O=>?_,λx k I=>?_,h.d2,λx O Z k I=>?_,h.wg.then P.mod λk I ⟨x,e⟩=>?_,⟨h.wy.1,h.wy.2.1,h.wy.2.2.1,h.wy.2.2.2.1,λx k I=>?_⟩⟩
 .obtain ⟨J,X,V⟩:=h.rw x O;refine⟨J,X,V.mK P.mod λU k I ⟨y,e⟩=> (h.d3 x O (by rw[J];exact Wx.2 U) k I).2.2.2.2 y e⟩
 .rcases P.ft x k I with⟨y,e⟩|e
  .exact h.d1 y k e
  .have l1:=h.st.lt;have l2:=h.im.lt;have l3:=h.am.lt;exact⟨by omega,by omega,by omega,λQ=>by have:=h.lo.lt k Q;omega⟩
 .obtain ⟨a1,a2,a3,a4,a5⟩:=h.d3 x O Z k I;refine⟨a1,a2,a3,a4,λy e=>?_⟩;rcases P.ft y k e with⟨z,Q⟩|Q
  .exact a5 z Q
  .obtain ⟨J,_,V⟩:=h.rw x O;have:=V.lt (λe3=>by rw[e3]at J;simp at J;omega) k I;omega
 .have:=h.wy.2.2.2.2 x k e;omega
 .rcases P.ft x k I with⟨y,e⟩|e
  .exact h.wy.2.2.2.2 y k e
  .have:=h.wg.size;omega
structure T_(id id':List (Int × Int))(c:List Int):Prop where
 rQ:yE id'
 kp:∀x,Nt id x->Nt id' x
 all:∀x∈c,Nt id' x
 len:id'.length<=id.length+c.length
theorem IK{p0 p2 p3 p4:Value}(ar:bO w nb #[p0,.map (some ib),p2,p3,p4])(a8:MV sT w ib id)(uO:yE id)(aw:nb≠ib)(hc:Vw sT w cp c)(a6:c≠[]->aF cp≠some ib)(hn:n=c.length)(hl:∀x∈c,cC x=true)(hlen:id.length+c.length<=1100000):
 Calls prog 95 #[cj nb,.slice cp n cc] w λe w'=>e=.returned (.tuple #[])/\∃id',aE (·=ib) w w'/\MV sT w' ib id'/\T_ id id' c:=by
 subst hn;refine jO.aj ?_;refine⟨λI u z=>∃i:Nat,I=i/\i<=c.length/\z=c.length - i/\∃id',aE (·=ib) w u/\MV sT u ib id'/\T_ id id' (c.take i),
  ⟨_,0,rfl,xc _,rfl,id,aE.refl w,a8,uO,λ_ h=>h,λx J=>by simp at J,by simp⟩,?_⟩
 rintro I u z _⟨i,rfl,hi,rfl,id',Y,mu,nt⟩;refine ah (λr=>?_) (λr=>?_)
 .have r:i<c.length:=by simpa using r
  have tk:∀x,x∈c.take (i+1)↔x∈c.take i\/x=c.getD i 0:=λx=>fz r;refine(hc.mK Y λa7 k hk e=>a6 a7 (by rw[<- e];exact hk)).ix 0 (by omega) rfl (by omega) λa e=>⟨_,e,_,rfl,_,ae (ar.keep Y aw) rfl,?_⟩
  rw[tn];have Z:=hl _ (bL r);have hb:=rz Z;have hz:=JI Z;generalize c.getD i 0=X at*
  have ea:imax X (IntKind.i64.wrap (0 - X))=bo X:=by
   rw[nw X hb];unfold imax bo;split<;>split<;>omega
  rw[ea];have ha:1<=bo X/\bo X<=1048576:=by unfold bo;split<;>omega
  have aa:=mu.cY lg (bo X) (rV u);have ag:((al id' (bo X)).map sT).getD (.i 0)=.i ((al id' (bo X)).getD 0):=by cases al id' (bo X)<;>rfl
  rw[ag]at aa;refine⟨_,_,aa,ah (λO=>?_) (λO=>?_)⟩
  .have O:(al id' (bo X)).getD 0=0:=by simpa using O
   have aT:al id' (bo X)=none:=by
    cases hv:al id' (bo X) with
    |none=>rfl
    |some v=>
     obtain⟨j,_,_,rfl⟩:=nt.rQ.get hv;rw[hv]at O;simp only[Wn]at O;omega
   have hd:=mu.drew;have av:=(ar.keep Y aw).drew;have V:=nt.len;rw[y6]at V;refine⟨_,rfl,_,ae av rfl,_,rfl,_,ae av rfl,_,hd.len lg _,?_⟩;rw[wN (i:=id'.length+1) (by omega) (by omega)];obtain⟨ay,hr,mv,mm,_⟩:=hd.put lg (bo X) ((id'.length+1:Nat):Int);have U:ai id' (bo X) ((id'.length+1:Nat):Int)=id'++ [(bo X,((id'.length+1:Nat):Int))]:=by unfold ai;rw[aT];rfl
   have Q:∀y,al (ai id' (bo X) ((id'.length+1:Nat):Int)) y=if y=bo X then some ((id'.length+1:Nat):Int) else al id' y:=λy=>Dk _ _ _ _
   refine⟨ay,hr,_,by omega,i+1,wN,r,rfl,_,(Y.grow (aE.refl u).drew).trans mm,mv,⟨vX nt.rQ.nd _ _,λj hj=>?_,λx J=>?_⟩,λx J=>⟨(nt.kp x J).1,?_⟩,λx J=>?_,?_⟩
   .rw [U]at hj ⊢;rw[I',WG]at hj;by_cases e:j<id'.length
    .have:=nt.rQ.rQ j e;simp only[List.getD,Wd e]at this ⊢;exact this
    .have:j=id'.length:=by omega
     subst this;simp[List.getD]
   .rw [U]at J;rcases y4.1 J with J|J
    .exact nt.rQ.U3 x J
    .rw [xv]at J;rw[J];exact ha
   .rw [Q];split
    .rfl
    .exact (nt.kp x J).2
   .rcases (tk x).1 J with J|rfl
    .refine ⟨(nt.all x J).1,?_⟩;rw[Q];split
     .rfl
     .exact (nt.all x J).2
    .exact ⟨hz,by rw[Q,v8 rfl];rfl⟩
   .rw [U,I',WG,y6];omega
  .have O:(al id' (bo X)).getD 0≠0:=by simpa using O
   have az:(al id' (bo X)).isSome:=by
    cases hv:al id' (bo X) with
    |none=>rw[hv]at O;simp at O
    |some v=>rfl
   have V:=nt.len;rw[y6]at V;refine⟨_,by omega,i+1,wN,r,rfl,id',Y,mu,nt.rQ,nt.kp,λx J=>?_,by rw[y6];omega⟩;rcases(tk x).1 J with J|rfl
   .exact nt.all x J
   .exact ⟨hz,az⟩
 .have r:i=c.length:=by simp at r;omega
  subst r;rw[L0]at nt;exact⟨rfl,id',Y,mu,nt⟩
def wI(v:Int)(c:List Int):Int:=c.foldl (λa x=>imax (imax a x) (-x)) v
theorem FE{v:Int}{j:Nat}(r:j<c.length):wI v (c.take (j+1))=imax (imax (wI v (c.take j)) (c.getD j 0)) (-(c.getD j 0)):=by
 unfold wI;rw[Wo,Y2];simp[List.getD,r]
end
section
variable{W w w' w0 w2 w3:World}{nb b ib ab:Nat}{vars:Int}{id id':List (Int × Int)}{H H' H2:Pt->Sl}{s t u s':aH}{lp:sn}{lc:Nat}{ls:List Int}{sm:List (Int × Sl)}{cl:Int->List Int}{cp:sn}{n cc:Nat}{c:List Int}
theorem DS(hv:∀x∈c,dZ n (dx id x))(hm:n<=1048576)(hlen:c.length<=4096):yB n (c.map (dx id))=true:=by
 unfold yB;rw[ts,K'];constructor
 .unfold jL;rw[ts,K'];first
  |refine⟨by simpa using hlen,λy J=>?_⟩
   obtain⟨x,I,rfl⟩:=LV.1 J;have:=hv x I;have:=this.bd hm;have Q:=this;unfold cC;simp only[x7];have O:=(hv x I).1;exact⟨O,this.1,this.2⟩
  |refine⟨λy J=>?_,by simpa using hlen⟩
   obtain⟨x,I,rfl⟩:=LV.1 J;have:=(hv x I).bd hm;unfold cC;simp only[x7];have O:=(hv x I).1;exact⟨O,this.1,this.2⟩
 .intro y J;obtain⟨x,I,rfl⟩:=LV.1 J;exact(iX hm).2 (hv x I)
theorem RL.add(h:RL id s ls sm cl)(g:aL s')(A:lM s (c.map (dx id)) s')(hl:∀x∈c,cC x=true/\Nt id x)(hlen:c.length<=4096)(sl:Sl):
 RL id s' (ls++ [(s.nc:Int)]) (ai sm (s.nc:Int) sl) (λj=>if j=(s.nc:Int) then c else cl j)/\(ls++ [(s.nc:Int)]).map (λj=>if j=(s.nc:Int) then c else cl j)=ls.map cl++ [c]/\ai sm (s.nc:Int) sl=sm++ [((s.nc:Int),sl)]:=by
 have U:∀j∈ls,j< (s.nc:Int):=λj Z=>by
  have h0:=h.l0 j Z;have:=((h.th j.toNat).2 (by rw[XQ h0];exact Z)).1;omega
 have Y:al sm (s.nc:Int)=none:=qY.2 λx J=>by have:=(h.QW x J).2;omega
 have Q:ai sm (s.nc:Int) sl=sm++ [((s.nc:Int),sl)]:=by unfold ai;rw[Y];rfl
 have I:∀i,i∈ls++ [(s.nc:Int)]↔i∈ls\/i=(s.nc:Int):=λi=>by simp
 have O:∀i∈ls,(if i=(s.nc:Int) then c else cl i)=cl i:=λi hi=>r8 (by have:=U i hi;omega);have V:∀i:Nat,s'.aN i↔s.aN i\/i=s.nc:=λi=>by
  unfold aH.aN;rw[A.n,A.g];by_cases e:i=s.nc
  .subst e;simp
  .rw [r8 e];exact⟨λ⟨h1,X⟩=> .inl ⟨by omega,X⟩,λh=>h.elim (λ⟨h1,X⟩=>⟨by omega,X⟩) λh=>absurd h e⟩
 refine⟨⟨g,A.be.trans h.be,h.rQ,A.v.trans h.sv,?_,λi=>?_,λi hi=>?_,λi hi=>?_,λi hi=>?_,λi hi=>?_,λi hi=>?_,λx J=>?_,?_⟩,?_,Q⟩
 .rw [Xu];refine⟨h.nd,by simp,λx J y hy e=>?_⟩;rw[xv]at hy;have:=U x J;omega
 .rw [V,I,h.th];refine or_congr Yb (by omega)
 .rcases (I i).1 hi with hi|rfl
  .exact h.l0 i hi
  .omega
 .rw [Dk];split
  .rfl
  .rename_i e;exact h.lk i (((I i).1 hi).resolve_right e)
 .rw [A.a];by_cases e:i=s.nc
  .subst e;simp
  .rw [r8 e,r8 (by omega)];exact h.cd i (((V i).1 hi).resolve_right e)
 .rcases (I i).1 hi with hi|rfl
  .rw [O i hi];exact h.lt i hi
  .rw [v8 rfl];exact hl
 .rcases (I i).1 hi with hi|rfl
  .rw [O i hi];exact h.ln i hi
  .rw [v8 rfl];exact hlen
 .rw [Q]at J;rw[A.n];rcases y4.1 J with J|J
  .have:=h.QW x J;omega
  .rw [xv]at J;rw[J];show 0<=(s.nc:Int)/\(s.nc:Int)<_;omega
 .rw [I',WG,A.n];have:=h.ll;omega
 .rw [GD,Yj,v8 rfl];refine congrArg (·++ [c]) (WT O)
theorem Qq(h:RB W w nb b ib ab vars id H s lp lc ls sm cl)(hc:Vw sT W cp c)(hn:n=c.length)(hlen:c.length<=4096)(hl:∀x∈c,cC x=true/\Nt id x)(du:s.nc<262144):
 Calls prog 100 #[cj nb,.slice cp n cc] w λe w'=>e=.returned (.tuple #[])/\∃H' s' lp' co bf cT b7,RB W w' nb b ib ab (wI vars c) id H' s' lp' co bf cT b7/\bf.map b7=ls.map cl++ [c]/\s'.nc=s.nc+1/\s'.R .tr=s.R .tr/\aE (FP nb ib ab b H lp) w w'/\(∀k,FP nb ib ab b H' lp' k->FP nb ib ab b H lp k\/w.heap.size<=k):=by
 subst hn;have C:=h.rQ.dx;have sv:=h.sv;have hinv:∀x∈c,dZ s.vars (dx id x):=λx Q=>by rw[sv];exact h.rQ.tI (hl x Q).2
 have hd:=h.drew;refine jx.aj ⟨ak w.drew,aE.refl _,_,rfl,_,λu g=>ae (hd.st.grow g) rfl,(yN hd (hc.grow hd.wg) rfl (by omega) λx Q=> (hl x Q).1).mono ?_⟩;rintro e w4⟨q,d,rfl,o4,g4,f4⟩;have h4:=hd.grow g4;refine⟨_,_,_,rfl,g4,(mf h4.pm h4.g o4.vw (by simp) (by unfold maxLen;omega)).mono ?_⟩;rintro e w6⟨r1,r2,rfl,s',H2,P,g',hr⟩;have cg:=DS hinv h.g.eM hlen;have ⟨e1,e2,A⟩:r1=s.nc/\r2=0/\lM s (c.map (dx id)) s':=by
  rcases hr with⟨_,_,hb,_⟩| ⟨_,_,_,hb,_⟩| ⟨a,a2,_,_,a3⟩
  .rw [cg]at hb;cases hb
  .omega
  .exact ⟨a,a2,a3⟩
 subst e1 e2;have O:=h4.rm.wU P;have ll:=h.ll;refine⟨_,_,rfl,bq rfl ⟨_,rfl,_,_,_,ae O.st rfl,?_⟩⟩;intro n47 d6 U;have z6:=O.wg.size;have d':=U.num;have ec:=U.mod.size;have i6:=O.st.lt;have i7:=O.im.lt;have i8:=O.am.lt;refine Ow.jS cR (O.lo.grow U.mod) ((s.nc:Int)) U.has rfl rfl eI (by omega) λbu p' c' bg aa c1 dq=>?_;have ar:∀k,aF p'=some k->aF lp=some k\/w6.heap.size<=k:=λk J=>by
  rcases c1 with rfl|rfl
  .exact .inl J
  .right;have:=aO J;omega
 have bk:=(O.st.grow U.mod).keep aa λe=>O.d2.2.2.2.1 e;refine⟨_,rfl,cz bk rfl rfl λV ag Z=>?_⟩;have d4:=Z.size;have aT:=ag.drew;have a':ak W V:=((O.wg.trans U.mod).then aa λk J e=>by have:=O.wy.2.2.2.1 k e;omega).then Z λk J e=>by have:=O.wy.1;omega
 refine⟨ak V.drew,aE.refl _,_,rfl,_,λu g=>ae (aT.grow g) rfl,(iA (hc.grow a'.drew) rfl (by omega)).mono ?_⟩;rintro e b6⟨q2,d2,rfl,c0,ax,f56⟩;have f56:∀k,aF q2=some k->V.heap.size<=k:=f56;have bY:MV Sl.v bu ab sm:=(O.am.grow U.mod).keep aa λe=>O.d2.2.2.2.2.2 e;have b5:MV Sl.v b6 ab sm:=((bY.keep Z λe=>O.d2.2.1 e.symm).drew).grow ax;obtain⟨aw,bx,b4,Y,_⟩:=b5.put Lz (s.nc:Int) (⟨q2,c.length,d2⟩:Sl);refine⟨_,_,_,rfl,ax,aw,bx,?_⟩;have X:ak V b6:=((aE.refl V).drew:ak V V.drew).trans ax;have cr:ak W aw:=(a'.trans X).then Y λk J e=>by have:=O.wy.2.2.1;omega
 have bb:=(ag.grow X).keep Y λe=>O.d2.2.1 e;refine⟨λI u z=>∃j:Nat,I=j/\j<=c.length/\z=c.length - j/\aE (·=nb) aw u/\bO u nb #[.i (wI vars (c.take j)),.map (some ib),cj b,.slice p' (ls.length+1) c',.map (some ab)],⟨_,0,rfl,xc _,rfl,aE.refl _,bb⟩,?_⟩;rintro I u z _⟨j,rfl,hj,rfl,gu,su⟩;have Gu:ak W u:=cr.then gu λk J e=>by have:=O.wy.1;omega
 refine ah (λr=>?_) (λr=>?_)
 .have r:j<c.length:=by simpa using r
  refine(hc.grow Gu).ix 0 (by omega) rfl (by omega) λa e=>⟨_,e,_,rfl,_,ae su rfl,_,rfl,?_⟩
  rw[tn,nw _ (rz (hl _ (bL r)).1),<- FE r];refine cz su rfl rfl λd5 bi c7=>⟨_,by omega,j+1,wN,r,rfl,gu.trans c7,bi⟩
 .have r:j=c.length:=by simp at r;omega
  subst r;rw[L0]at su;obtain⟨L,a_,b3⟩:=h.rl.add g' A hl hlen ⟨q2,c.length,d2⟩;have MM:aE (λk=>aF lp=some k\/k=nb\/k=ab) w6 u:=by
   have a1:aE (λk=>aF lp=some k\/k=nb\/k=ab) w6 bu:=(U.mod.mono λ_ _ e=>e.elim).then aa λk _ e=> .inl e;have a2:=a1.then Z λk _ e=> .inr (.inl e);have a3:=(a2.then X λk _ e=>e.elim).then Y λk _ e=> .inr (.inr e);exact a3.then gu λk _ e=> .inr (.inl e)
  have z4:=g4.size;have z46:=P.mod.size;have zd:w.drew.heap.size=w.heap.size:=rfl;refine⟨rfl,H2,s',p',c',_,_,_,RB.of ?_ L,a_,A.n,A.tr,(((((aE.refl w).drew.grow g4:ak w w4)).mono λ_ _ e=>e.elim).then P.mod λk _ e=> .inr (.inr (.inr (.inr e)))).then MM λk _ e=>?_,λk J=>?_⟩
  rotate_left
  .rcases e with e|e|e
   .exact .inr (.inr (.inr (.inl e)))
   .exact .inl e
   .exact .inr (.inr (.inl e))
  .rcases J with e|e|e|e| ⟨x,e⟩
   .exact .inl (.inl e)
   .exact .inl (.inr (.inl e))
   .exact .inl (.inr (.inr (.inl e)))
   .rcases ar k e with e|e
    .exact .inl (.inr (.inr (.inr (.inl e))))
    .right;omega
   .rcases P.ft x k e with⟨y,e⟩|e
    .exact .inl (.inr (.inr (.inr (.inr ⟨y,e⟩))))
    .right;omega
  have G6:=O.wg.size;have hz:∀k,k<w6.heap.size->aF lp≠some k->aF p'≠some k:=λk J hn e=>by
   rcases ar k e with e|e
   .exact hn e
   .omega
  have ay:=bg.lt;refine⟨by simpa using su,O.pm.keep MM λx k J e=>?_,O.im.keep MM λe=>?_,b4.keep gu λe=>O.d2.2.1 e.symm,?_,λx Q=>?_,λx k J=>?_,?_,λx Q h0 k J=>?_,Gu,?_⟩
  .obtain ⟨a1,a2,a3,a4⟩:=O.d1 x k J;rcases e with e|e|e
   .exact a4 e
   .exact a1 e
   .exact a3 e
  .obtain ⟨a1,a2,a3,a4,a5,a6⟩:=O.d2;rcases e with e|e|e
   .exact a5 e
   .exact a1 e.symm
   .exact a3 e
  .have nn:∀k,aF p'=some k->k≠nb/\k≠ab:=λk J=>⟨λe=>hz nb i6 O.d2.2.2.2.1 (e▸J),λe=>hz ab i8 O.d2.2.2.2.2.2 (e▸J)⟩
   exact(((bg.keep Z λk J e=> (nn k J).1 e).grow X).keep Y λk J e=> (nn k J).2 e).keep gu λk J e=> (nn k J).1 e
  .rw [b3]at Q;rcases y4.1 Q with Q|Q
   .obtain ⟨r1,r2,r3⟩:=O.rw x Q;have a7:x.1≠(s.nc:Int):=by have:=(h.QW x Q).2;omega
    rw[r8 a7];refine⟨r1,r2,r3.mK MM λa7 k J e=>?_⟩;obtain⟨a1,a2,a3,a4,a5⟩:=O.d3 x Q (by rw[r1];exact Wx.2 a7) k J;rcases e with e|e|e
    .exact a4 e
    .exact a1 e
    .exact a3 e
   .rw [xv]at Q;subst Q;rw[v8 rfl];refine⟨rfl,by show c.length<=maxLen;unfold maxLen;omega,(c0.vw.keep Y λk J e=>?_).keep gu λk J e=>?_⟩
    .have:=f56 k J;omega
    .have:=f56 k J;omega
  .obtain ⟨a1,a2,a3,a4⟩:=O.d1 x k J;exact⟨a1,a2,a3,hz k (O.pm.lt x k J) a4⟩
  .obtain ⟨a1,a2,a3,a4,a5,a6⟩:=O.d2;exact⟨a1,a2,a3,hz _ i6 a4,hz _ i7 a5,hz _ i8 a6⟩
  .rw [b3]at Q;rcases y4.1 Q with Q|Q
   .obtain ⟨r1,r2,r3⟩:=O.rw x Q;obtain⟨a1,a2,a3,a4,a5⟩:=O.d3 x Q h0 k J;exact⟨a1,a2,a3,hz k (r3.lt (λe3=>by rw[e3]at r1;simp at r1;omega) k J) a4,a5⟩
   .rw [xv]at Q;subst Q;have fk:=f56 k J;refine⟨by omega,by omega,by omega,λe=>?_,λy e=>?_⟩
    .have:=ay k e;omega
    .have:=O.pm.lt y k e;omega
  .obtain ⟨a1,a2,a3,a4,a5⟩:=O.wy;refine⟨a1,a2,a3,λk J=>?_,a5⟩;rcases ar k J with e|e
   .exact a4 k e
   .omega
end
end Go.Proofs.YtbdghpjnifjlmaaGreat.W
namespace Go.Fw
open Go Go.RowKit
variable{P:Program}{α:Type}{f:α->Value}{T:TypeId}{w w':World}{p q:sn}{c:Nat}{l:List α}
theorem Ow.DT{t ty e bytes:Nat}(hs:mg P t e bytes=true)(h:Ow f e w p c l){k m d:Nat}{news:List α}(V:Vw f w q news)(hm:m=news.length)(J:k+m<=l.length)(ho:∀x,(f x).oneCell'=true){K:World->Prop}
 (O:∀w',Ow f e w' p c (l.take k++news++l.drop (k+m))->aE (λb=>aF p=some b) w w'->K w'):
 ∃w',(Builtin.append_ #[t,t] ty #[.slice p k c,.slice q m d]).run P w=.ok (.slice p (k+m) c) w'/\K w':=by
 obtain⟨ht,i,z,hi,hz,h1,hb,h3⟩:=nV hs;subst hm;rcases Wt news.length with Q|Q
 .have hn:news= []:=Wa Q;subst hn;have hr:=(h.take (k:=k) (by omega)).Sn hs (q:=q) (k:=d) (n:=k) (ty:=ty) (by rw[y6];omega);exact⟨w,hr,O w (by simpa using h) (aE.refl w)⟩
 .obtain ⟨a,rfl,_⟩:=V 0 Q;rcases h.un with⟨rfl,rfl,rfl⟩| ⟨g,cur,rfl,Y,g1,g2,Z,g4⟩
  .rw [Xi]at J;omega
  .have hr:=run_append_room (P:=P) w t ty e i ht hi g k c cur Y a news.length d (news.map f) (by simp[h1]) (λj v X=>by
    have I:j<news.length:=by have:=(Ws.1 X).1;simpa using this
    obtain⟨a',ha,U⟩:=V j I;simp only[Wu]at ha;subst ha;rw[U];simpa[I]using X) (λu hu=>by obtain⟨x,_,rfl⟩:=LV.1 hu;exact ho x) (by omega) (by simp[h1];omega)
   rw[h1,XZ]at hr;refine⟨_,hr,O _ (Ow.da (setRow_heap w g cur _ e _ Y) (by simp;omega) g2 (by simp;omega) ?_) ⟨rfl,rfl,rfl,by simp,λk _ O=>setRow_other w g k _ λhe=>O (by simp[aF,he])⟩⟩;have hl:(l.take k++news++l.drop (k+news.length)).length=l.length:=by simp;omega
   rw[hl,GD,GD,YC,List.map_drop,<- g4];have U:cur.toList.length=c:=by simpa using Z
   apply Xr;intro j;simp only[We,WE,YM,I',y6,Xp,U];repeat' split
   all_goals first
    |rfl
    |omega
    | (congr 1;omega)
end Go.Fw
namespace Go.Proofs.YtbdghpjnifjlmaaGreat.W
open Go Go.Fw Go.RowKit Go.SoP Go.LiP
open Go.Proofs.Tryz (prog)
section
variable{w w':World}{p q:sn}{n c:Nat}{l:List Int}
theorem PB(o:d_ aB w p c l)(hn:n=l.length)(hm:n<=1000000){i:Nat}(hi:i<n):
 Calls prog 142 #[.slice p n c,.i (i:Int),.i ((i+1:Nat):Int)] w λe w'=>e=.returned (.slice p (l.eraseIdx i).length c)/\d_ aB w' p c (l.eraseIdx i)/\aE (Bk p) w w':=by
 subst hn;have V:l.length<=c:=by
  rcases o.un with⟨_,_,rfl⟩| ⟨_,_,_,_,h,_⟩
  .simp at hi
  .exact h
 refine dJ.aj ?_;refine gh i (i+1) l.length rfl rfl rfl (by omega) (by omega) (by omega) ?_;refine bq (by simp;omega) ?_;refine gh 0 i c rfl rfl rfl (by omega) (by omega) (by omega) ?_;refine gh (i+1) l.length c rfl rfl rfl (by omega) (by omega) (by omega) ?_;rw[r8 (by omega),TT,WO,WO];have hv:Vw sT w.drew (if c=i+1 then p else p.map (·.add ((i+1)*1))) (l.drop (i+1)):=by
  by_cases e:c=i+1
  .rw [List.drop_eq_nil_of_le (by omega)];exact Vw.nil
  .rw [r8 e];have:=(o.drew.vw).part (i:=i+1) (m:=l.length - (i+1)) (by omega)
   rwa [Wi (by rw[WD];omega)]at this
 obtain⟨J,hr,O,X⟩:=o.drew.DT cR (ty:=31) (d:=c - (i+1)) (k:=i) hv (m:=l.length - (i+1)) (by rw[WD]) (by omega) eI (K:=λJ=>d_ aB J p c (l.take i++l.drop (i+1)++l.drop (i+ (l.length - (i+1))))/\aE (λb=>aF p=some b) w.drew J) λw' a b=>⟨a,b⟩
 have he:(l.take i++l.drop (i+1))=l.eraseIdx i:=(List.eraseIdx_eq_take_drop_succ ..).symm;have hlen:(l.eraseIdx i).length=l.length - 1:=by rw[List.length_eraseIdx,v8 hi]
 rw[he]at O;have I:(l.eraseIdx i++l.drop (i+ (l.length - (i+1)))).length=l.length:=by rw[I',hlen,WD];omega
 have Q:i+ (l.length - (i+1))=l.length - 1:=by omega
 rw[Q]at hr O I;refine⟨J,_,_,_,hr,?_⟩;refine gh (l.length - 1) l.length c rfl rfl rfl (by omega) (by omega) (by omega) ?_;rw[r8 (by omega)];refine O.clear cR iC (x:=(0:Int)) rfl rfl (by rw[I];omega) (by omega) λZ U Y=>?_;rw[Wg (by omega),Wi (by omega)]at U;rw[hlen];exact⟨rfl,U,(aE.mono ((aE.refl w).drew:ak w w.drew) λ_ _ e=>e.elim).trans (X.trans Y)⟩
end
section
variable{W w w' w0 w2 w3:World}{nb b ib ab:Nat}{vars:Int}{id id':List (Int × Int)}{H H' H2:Pt->Sl}{s t u s':aH}{lp:sn}{lc:Nat}{ls:List Int}{sm:List (Int × Sl)}{cl:Int->List Int}{cp:sn}{n cc:Nat}{c:List Int}
def tU(c:List Int):lq->lq
 | []=> []
 |x::l=>if bC x=bC c then l else x::tU c l
theorem JH:∀ {cs:lq} {i:Nat},i<cs.length->(∀j,j<i->bC (cs.getD j [])≠bC c)->bC (cs.getD i [])=bC c->tU c cs=cs.eraseIdx i
 | [],_,h,_,_=>by simp at h
 |x::l,0,_,_,h=>by
  have h:bC x=bC c:=h;show (if bC x=bC c then l else _)=_;rw[v8 h];rfl
 |x::l,i+1,hi,hj,h=>by
  have I:bC x≠bC c:=hj 0 (by omega);show (if bC x=bC c then l else x::tU c l)=_;rw[r8 I,List.eraseIdx_cons_succ];exact congrArg _ (JH (by simpa using hi) (λj h=>hj (j+1) (by omega)) h)
theorem Ji:∀ {cs:lq},(∀j,j<cs.length->bC (cs.getD j [])≠bC c)->tU c cs=cs
 | [],_=>rfl
 |x::l,h=>by
  have I:bC x≠bC c:=h 0 (by simp);show (if bC x=bC c then l else x::tU c l)=_;rw[r8 I];exact congrArg _ (Ji λj J=>h (j+1) (by simpa using J))
theorem tF{α β:Type}{f:α->β}{l:List α}{i:Nat}(h:i<l.length)(d:α)(e:β):(l.map f).getD i e=f (l.getD i d):=by simp[List.getD,h]
theorem LY(h1:∀x∈c,cC x=true)(I:c.length<=4096):jL c=true:=by
 unfold jL;rw[ts,K',x7];exact⟨h1,I⟩
theorem aL.Qp(g:aL s)(ht:s.R .tr= []){x:Int}(I:dZ s.vars x): ¬0<s.val x:=by
 rcases aH.rD g.wf x with e|e|e
 .omega
 .have:=(g.v1 x I).1 e;rw[ht]at this;simp at this
 .omega
theorem l7(i:Nat):(s.drop i).vars=s.vars/\(s.drop i).nc=s.nc:=by
 obtain⟨J,I,O,Q⟩:=jb i ((s.R (.l i)).take 2) s;exact⟨J,I⟩
theorem RL.drop(h:RL id s ls sm cl){i:Nat}(hi:i<ls.length)(g:aL (s.drop (ls.getD i 0).toNat)):RL id (s.drop (ls.getD i 0).toNat) (ls.eraseIdx i) sm cl:=by
 have hm:=bL hi;have h0:=h.l0 _ hm;obtain⟨v1,v2⟩:=l7 (s:=s) (ls.getD i 0).toNat;have I:∀x∈ls.eraseIdx i,x∈ls:=λx J=>List.mem_of_mem_eraseIdx J;have Q:∀x,x∈ls.eraseIdx i↔x∈ls/\x≠ls.getD i 0:=λx=>by
  rw[List.mem_eraseIdx_iff_getElem];have Z:ls.getD i 0=ls[i]:=by simp[List.getD,hi]
  rw[Z];constructor
  .rintro ⟨j,X,O,rfl⟩;exact⟨XF _,λe=>O ((XE h.nd).1 e)⟩
  .rintro ⟨J,O⟩;obtain⟨j,X,rfl⟩:=Bs.1 J;exact⟨j,X,λe=>O (by subst e;rfl),rfl⟩
 have V:∀k:Nat,(s.drop (ls.getD i 0).toNat).aN k↔(k:Int)∈ls.eraseIdx i:=λk=>by
  rw[gF,Q,h.th];refine and_congr Yb ?_;omega
 refine⟨g,?_,h.rQ,v1.trans h.sv,h.nd.sublist (List.eraseIdx_sublist ..),V,λx J=>h.l0 x (I x J),λx J=>h.lk x (I x J),λk Y=>?_,λx J=>h.lt x (I x J),λx J=>h.ln x (I x J),λx J=>by rw[v2];exact h.QW x J,?_⟩
 .rw [qU _ _ (by simp) (by simp) (by simp) (by simp)];exact h.be
 .have U:=gF.1 Y;rw[qU _ _ (by simp) (by simp) (by simpa using U.2) (by simp)];exact h.cd k U.1
 .rw [v2];have:=h.ll;have:=List.length_eraseIdx_le ls i;omega
theorem NN(h:RB W w nb b ib ab vars id H s lp lc ls sm cl)(ag:s.R .tr= [])(hc:Vw sT w cp c)(hn:n=c.length)(a':jL c=true):
 Calls prog 97 #[cj nb,.slice cp n cc] w λe w'=>e=.returned (.tuple #[])/\∃H' s' a_,RB W w' nb b ib ab vars id H' s' lp lc a_ sm cl/\a_.map cl=tU c (ls.map cl)/\s'.nc=s.nc/\s'.R .tr= []/\aE (FP nb ib ab b H lp) w w'/\(∀k,FP nb ib ab b H' lp k->FP nb ib ab b H lp k\/w.heap.size<=k):=by
 subst hn;have cg:=(cX a').2;have dh:=h.ll;have co:=h.g.Lj;refine iQ.aj ((wk hc rfl (by unfold maxLen;omega)).mono ?_);rintro e w1⟨q,d,m,hm,rfl,o1,g1⟩;rw[a']at hm;simp only[I5]at hm;subst hm;have h1:=h.grow g1;refine⟨_,_,_,_,rfl,_,rfl,_,_,_,ae h1.st rfl,?_⟩;refine⟨λI u z=>∃i:Nat,I=i/\i<=ls.length/\z=ls.length - i/\ak w1 u/\∀j,j<i->bC (cl (ls.getD j 0))≠bC c,⟨_,0,rfl,xc _,rfl,aE.refl _,λj hj=>by omega⟩,?_⟩;rintro I u z _⟨i,rfl,hi,rfl,gu,ar⟩;have hu:=h1.grow gu;refine ah (λr=>?_) (λr=>?_)
 .have r:i<ls.length:=by simpa using r
  have hm:=bL r;refine hu.lo.vw.ix 0 (by omega) rfl (by omega) λa e=>⟨_,e,?_⟩
  rw[tn];obtain⟨sl,c2,bx,c7,a7,b9⟩:=hu.cY hm;have bk:jL (cl (ls.getD i 0))=true:=LY (λx Y=> (h.lt _ hm x Y).1) (h.ln _ hm);have c1:=h.ln _ hm;refine⟨_,rfl,_,ae hu.st rfl,_,_,_,_,bx,(wk b9 a7 (by rw[a7];unfold maxLen;omega)).mono ?_⟩;rintro e cm⟨q2,d2,m2,av,rfl,b7,a8⟩;rw[bk]at av;simp only[I5]at av;subst av;have nl:=sM (cl (ls.getD i 0));refine⟨_,_,_,_,rfl,(Fv b7.vw rfl (by unfold maxLen;omega) ((o1.grow gu).grow a8).vw rfl).mono ?_⟩;rintro e bf⟨rfl,b6⟩;have U:=(gu.trans a8).trans b6;have J:=h1.grow U;refine⟨_,rfl,ah (λQ=>?_) (λQ=>?_)⟩
  .have Q:bC (cl (ls.getD i 0))=bC c:=by simpa using Q
   refine⟨_,rfl,_,_,_,ae J.st rfl,?_⟩;rw[wN (i:=i+1) (by omega) (by omega)];refine(PB J.lo rfl (by omega) r).mono ?_;rintro e bY⟨rfl,b',bu⟩;obtain⟨a1,a2,a3,a4,a5,a6⟩:=J.d2;have X:aE (λk=>aF lp=some k) bf bY:=bu;have aT:=J.st.keep X λe=>a4 e;refine⟨_,_,_,rfl,_,rfl,cz aT rfl rfl λaw bb az=>?_⟩;have MM:aE (λk=>aF lp=some k\/k=nb) bf aw:=(X.mono λk _ e=> .inl e).then az λk _ e=> .inr e;have Z:RM W aw nb b ib ab vars id H s lp lc (ls.eraseIdx i) sm cl:=by
    refine⟨bb,J.pm.keep MM λx k O e=>?_,J.im.keep MM λe=>?_,J.am.keep MM λe=>?_,b'.keep az λk O e=>a4 (e▸O),λx Y=>?_,J.d1,J.d2,J.d3,J.wg.then MM λk O e=>?_,J.wy⟩
    .obtain ⟨b1,b2,b3,b4⟩:=J.d1 x k O;exact e.elim b4 b1
    .exact e.elim a5 λe=>a1 e.symm
    .exact e.elim a6 λe=>a2 e.symm
    .obtain ⟨r1,Q,r3⟩:=J.rw x Y;refine⟨r1,Q,r3.mK MM λcb k O e=>?_⟩;obtain⟨b1,b2,b3,b4,b5⟩:=J.d3 x Y (by rw[r1];exact Wx.2 cb) k O;exact e.elim b4 b1
    .rcases e with e|e
     .have:=J.wy.2.2.2.1 k e;omega
     .have:=J.wy.1;omega
   have h0:=h.l0 _ hm;have hJ:(((ls.getD i 0).toNat:Nat):Int)=ls.getD i 0:=XQ h0;have V:s.aN (ls.getD i 0).toNat:=(h.th _).2 (by rw[hJ];exact hm);have ay:∀x∈s.R (.l (ls.getD i 0).toNat),¬(0<s.val x/\s.nD x=(((ls.getD i 0).toNat:Nat):Int)):=λx Y e=>h.g.Qp ag (h.g.cv _ V x Y) e.1;have b_:s.is (ls.getD i 0)=true:=by
    unfold aH.is;have:=V.1;rw[V.2];simp only[ZD,XI,x7];omega
   refine⟨_,rfl,_,ae Z.st rfl,(DP Z.pm h.g (ls.getD i 0)).mono ?_⟩;rintro e bn⟨c4,rfl,H',hr⟩;have P:Pw aw bn b H H' (s.drop (ls.getD i 0).toNat):=by
    rcases hr with⟨_,hf,_⟩| ⟨_,_,⟨x,Y,h1,h2⟩,_⟩| ⟨_,_,_,hP⟩
    .rw [b_]at hf;cases hf
    .exact absurd ⟨h1,h2⟩ (ay x Y)
    .exact hP
   refine⟨_,rfl,rfl,H',_,_,RB.of (Z.wU P) (h.rl.drop r (tA h.g V ay)),?_,(l7 _).2,?_,(((g1.trans U).mono λ_ _ e=>e.elim).then MM λk _ e=>e.elim (λe=> .inr (.inr (.inr (.inl e)))) λe=> .inl e).then P.mod λk _ e=> .inr (.inr (.inr (.inr e))),λk O=>?_⟩
   .rw [JH (i:=i) (by simpa using r) (λj hj=>by rw[tF (by omega) 0];exact ar j hj) (by rw[tF r 0];exact Q)];exact Go.ChangeMaps.map_eraseIdx _ _ _
   .rw [qU _ _ (by simp) (by simp) (by simp) (by simp)];exact ag
   .rcases O with e|e|e|e| ⟨x,e⟩
    .exact .inl (.inl e)
    .exact .inl (.inr (.inl e))
    .exact .inl (.inr (.inr (.inl e)))
    .exact .inl (.inr (.inr (.inr (.inl e))))
    .rcases P.ft x k e with⟨y,e⟩|e
     .exact .inl (.inr (.inr (.inr (.inr ⟨y,e⟩))))
     .right;have a1:=(g1.trans U).size;have a2:=MM.size;omega
  .have Q:bC (cl (ls.getD i 0))≠bC c:=by simpa using Q
   refine⟨_,by omega,i+1,wN,r,rfl,U,λj hj=>?_⟩;by_cases e:j<i
   .exact ar j e
   .obtain rfl:j=i:=by omega
    exact Q
 .have r:i=ls.length:=by simp at r;omega
  subst r;exact⟨rfl,H,s,ls,hu,(Ji λj hj=>by rw[tF (by simpa using hj) 0];exact ar j (by simpa using hj)).symm,rfl,ag,(g1.trans gu).mono λ_ _ e=>e.elim,λk O=> .inl O⟩
end
section
variable{W w w' w0 w2 w3:World}{nb b ib ab k:Nat}{vars:Int}{id id':List (Int × Int)}{cs:lq}{t:Bool}{A A':Nat->Prop}{cp lp lp':sn}{n cc:Nat}{c:List Int}{H H':Pt->Sl}{s s':aH}{lc:Nat}{ls:List Int}{sm:List (Int × Sl)}{cl:Int->List Int}
theorem RB.VC(h:RB W w nb b ib ab vars id H s lp lc ls sm cl):∀k,FP nb ib ab b H lp k->k<w.heap.size:=by
 rintro k (rfl|rfl|rfl|e| ⟨x,e⟩)
 .exact h.st.lt
 .exact h.im.lt
 .exact h.am.lt
 .exact h.lo.lt k e
 .exact h.pm.lt x k e
theorem Pw.fp(P:Pw w w' b H H' s'):aE (FP nb ib ab b H lp) w w'/\∀k,FP nb ib ab b H' lp k->FP nb ib ab b H lp k\/w.heap.size<=k:=by
 refine⟨P.mod.mono λk _ e=> .inr (.inr (.inr (.inr e))),λk I=>?_⟩;rcases I with e|e|e|e| ⟨x,e⟩
 .exact .inl (.inl e)
 .exact .inl (.inr (.inl e))
 .exact .inl (.inr (.inr (.inl e)))
 .exact .inl (.inr (.inr (.inr (.inl e))))
 .rcases P.ft x k e with⟨y,e⟩|e
  .exact .inl (.inr (.inr (.inr (.inr ⟨y,e⟩))))
  .exact .inr e
def Aw(A:Nat->Prop)(w:World)(F:Nat->Prop):Prop:=∀j,A j->j<w.heap.size/\¬F j
theorem Aw.go{F J:Nat->Prop}(h:Aw A w F)(M:aE F w w')(f:∀k,J k->F k\/w.heap.size<=k):Aw A w' J/\aE (λj=> ¬A j) w w':=by
 refine⟨λj I=>⟨by have:=(h j I).1;have:=M.size;omega,λe=>?_⟩,M.mono λk _ e O=> (h k O).2 e⟩;rcases f j e with e|e
 .exact (h j I).2 e
 .have:=(h j I).1;omega
def Wk(t:Bool)(A:Nat->Prop)(W w:World)(nb:Nat)(vars:Int)(id:List (Int × Int))(cs:lq)(k:Nat):Prop:=
 ∃b ib ab H s lp lc ls sm cl,RB W w nb b ib ab vars id H s lp lc ls sm cl/\ls.map cl=cs/\s.nc<=k/\(t=true->s.R .tr= [])/\Aw A w (FP nb ib ab b H lp)
theorem Wk.Na(h:Wk t A W w nb vars id cs k)(U:∀j,A' j->A j):Wk t A' W w nb vars id cs k:=by
 obtain⟨b,ib,ab,H,s,lp,lc,ls,sm,cl,h,h1,I,O,J⟩:=h;exact⟨b,ib,ab,H,s,lp,lc,ls,sm,cl,h,h1,I,O,λj Q=>J j (U j Q)⟩
theorem Wk.enter(h:Wk t A W w nb vars id cs k)(g:ak w w'):Wk t (λj=>A j\/(w.heap.size<=j/\j<w'.heap.size)) W w' nb vars id cs k:=by
 obtain⟨b,ib,ab,H,s,lp,lc,ls,sm,cl,h,h1,O,Q,J⟩:=h;refine⟨b,ib,ab,H,s,lp,lc,ls,sm,cl,h.grow g,h1,O,Q,λj I=>?_⟩;have U:=g.size;rcases I with I|I
 .exact ⟨by have:=(J j I).1;omega,(J j I).2⟩
 .exact ⟨I.2,λe=>by have:=h.VC j e;omega⟩
theorem Wk.wg(h:Wk t A W w nb vars id cs k):ak W w:=by
 obtain⟨b,ib,ab,H,s,lp,lc,ls,sm,cl,h,h1,I,J⟩:=h;exact h.wg
theorem Wk.len(h:Wk t A W w nb vars id cs k):cs.length<=k:=by
 obtain⟨b,ib,ab,H,s,lp,lc,ls,sm,cl,h,rfl,I,J⟩:=h;rw[We];have:=h.ll;omega
theorem Wk.has(h:Wk t A W w nb vars id cs k):∃J I O:Value,∃ (lp:sn) (lc:Nat),bO w nb #[.i vars,J,I,.slice lp cs.length lc,O]:=by
 obtain⟨b,ib,ab,H,s,lp,lc,ls,sm,cl,h,rfl,Q,U⟩:=h;rw[We];exact⟨_,_,_,_,_,h.st⟩
theorem Wk.up(h:Wk t A W w nb vars id cs k):Wk t A W w nb vars id cs (k+1):=by
 obtain⟨b,ib,ab,H,s,lp,lc,ls,sm,cl,h,h1,O,J,I⟩:=h;exact⟨b,ib,ab,H,s,lp,lc,ls,sm,cl,h,h1,by omega,J,I⟩
theorem Wk.unit(h:Wk true A W w nb vars id cs k)(J:Vw sT W cp c)(hn:n=c.length)(I:n<=100000)(hl:∀x∈c,cC x=true/\Nt id x):
 Calls prog 98 #[cj nb,.slice cp n cc] w λe w'=>∃r:Bool,e=.returned (.bool r)/\(r=true↔uB cs c)/\Wk (!c.isEmpty) A W w' nb vars id cs k/\aE (λj=> ¬A j) w w':=by
 obtain⟨b,ib,ab,H,s,lp,lc,ls,sm,cl,h,rfl,h2,Y,X⟩:=h;refine(IN h (Y rfl) (J.grow h.wg) hn I (λx I=> (hl x I).1) (λx I=> (hl x I).2)).mono ?_;rintro e w'⟨r,rfl,hr,H',s',Z,P,U,ht⟩;obtain⟨O,V⟩:=P.fp (nb:=nb) (ib:=ib) (ab:=ab) (lp:=lp);obtain⟨a1,a2⟩:=X.go O V;exact⟨r,rfl,hr,⟨b,ib,ab,H',s',lp,lc,ls,sm,cl,Z,rfl,by omega,λe=>ht λQ=>by subst Q;simp at e,a1⟩,a2⟩
theorem Wk.first(h:Wk (!c.isEmpty) A W w nb vars id cs k)(O:Vw sT W cp c)(hn:n=c.length)(J:n<=90000)(hl:∀x∈c,cC x=true/\Nt id x):
 Calls prog 99 #[cj nb,.slice cp n cc] w λe w'=>∃r:Bool,e=.returned (.bool r)/\(r=true↔fB cs c)/\Wk (!c.isEmpty) A W w' nb vars id cs k/\aE (λj=> ¬A j) w w':=by
 by_cases I:c= []
 .subst I;subst hn;exact fG.aj (bJ rfl ⟨false,rfl,⟨λe=> (by cases e),λh=>absurd rfl h.1⟩,h,aE.refl w⟩)
 .obtain ⟨b,ib,ab,H,s,lp,lc,ls,sm,cl,h,rfl,h2,Z,Y⟩:=h;refine(Oa h (Z (by simpa using I)) (O.grow h.wg) hn J (λx J=> (hl x J).1) (λx J=> (hl x J).2) λ_ k X x e=>?_).mono ?_
  .have:=O.lt I k X;have:=h.wy.2.2.2.2 x k e;omega
  .rintro e w' ⟨r,rfl,hr,H',s',h',P,U,ht⟩;obtain⟨Q,V⟩:=P.fp (nb:=nb) (ib:=ib) (ab:=ab) (lp:=lp);obtain⟨a1,a2⟩:=Y.go Q V;exact⟨r,rfl,hr,⟨b,ib,ab,H',s',lp,lc,ls,sm,cl,h',rfl,by omega,λ_=>ht,a1⟩,a2⟩
theorem Wk.add(h:Wk t A W w nb vars id cs k)(U:Vw sT W cp c)(hn:n=c.length)(hlen:c.length<=4096)(hl:∀x∈c,cC x=true/\Nt id x)(hk:k<262144):
 Calls prog 100 #[cj nb,.slice cp n cc] w λe w'=>e=.returned (.tuple #[])/\Wk t A W w' nb (wI vars c) id (cs++ [c]) (k+1)/\aE (λj=> ¬A j) w w':=by
 obtain⟨b,ib,ab,H,s,lp,lc,ls,sm,cl,h,rfl,h2,h3,Z⟩:=h;refine(Qq h U hn hlen hl (by omega)).mono ?_;rintro e w'⟨rfl,H',s',lp',I,O,J,Q,h',hm,X,ht,V,Y⟩;obtain⟨a1,a2⟩:=Z.go V Y;exact⟨rfl,⟨b,ib,ab,H',s',lp',I,O,J,Q,h',hm,by omega,λe=>ht.trans (h3 e),a1⟩,a2⟩
theorem Wk.drop(h:Wk true A W w nb vars id cs k)(O:Vw sT W cp c)(hn:n=c.length)(J:jL c=true):
 Calls prog 97 #[cj nb,.slice cp n cc] w λe w'=>e=.returned (.tuple #[])/\Wk true A W w' nb vars id (tU c cs) k/\aE (λj=> ¬A j) w w':=by
 obtain⟨b,ib,ab,H,s,lp,lc,ls,sm,cl,h,rfl,h2,Y,X⟩:=h;refine(NN h (Y rfl) (O.grow h.wg) hn J).mono ?_;rintro e w'⟨rfl,H',s',I,Z,hm,U,ht,Q,V⟩;obtain⟨a1,a2⟩:=X.go Q V;exact⟨rfl,⟨b,ib,ab,H',s',lp,lc,I,sm,cl,Z,hm,by omega,λ_=>ht,a1⟩,a2⟩
theorem Wk.V6{del:Bool}(h:Wk true A W w nb vars id cs k)(Q:Vw sT W cp c)(hn:n=c.length)(hlen:c.length<=4096)(hl:∀x∈c,cC x=true/\Nt id x)(hk:k<262144):
 Calls prog 57 #[cj nb,.agg #[.bool del,.slice cp n cc]] w λe w'=>∃r:Int,e=.returned (.i r)/\aE (λj=> ¬A j) w w'/\
  ((del=true/\r=0/\Wk true A W w' nb vars id (tU c cs) k)\/(del=false/\(uB cs c\/fB cs c)/\r=0/\Wk (!c.isEmpty) A W w' nb (wI vars c) id (cs++ [c]) (k+1))\/(del=false/\¬(uB cs c\/fB cs c)/\r=7/\Wk (!c.isEmpty) A W w' nb vars id cs k)):=by
 subst hn;have a7:jL c=true:=LY (λx hx=> (hl x hx).1) hlen;refine kC.aj ?_;intro Y w2 I;have e2:=I.num;have i1:=I.has.lt;have hh:=h.enter I.mod;have lt:∀j,A j->j<w.heap.size:=by
  obtain⟨b,ib,ab,H,s,lp,lc,ls,sm,cl,_,_,_,_,h4⟩:=h;exactλj hj=> (h4 j hj).1
 have eh:∀ {t v V kk u},Wk t (λj=>A j\/(w.heap.size<=j/\j<w2.heap.size)) W u nb v id V kk->Wk t A W u nb v id V kk:=λh=>h.Na λj hj=> .inl hj;have fm:∀ {u:World},aE (λj=> ¬(A j\/(w.heap.size<=j/\j<w2.heap.size))) w2 u->aE (λj=> ¬A j) w u:=λm=> (I.mod.mono λ_ _ e=>e.elim).then m λk _ e e2=>e (.inl e2);have X:A Y\/(w.heap.size<=Y/\Y<w2.heap.size):=.inr ⟨by omega,i1⟩;refine⟨_,ae I.has rfl,?_⟩;cases del with
 |true=>
  refine bJ rfl ⟨_,_,_,ae I.has rfl,(hh.drop Q rfl a7).mono ?_⟩;rintro e w5⟨rfl,h5,m5⟩;exact⟨rfl,0,rfl,fm m5,.inl ⟨rfl,rfl,eh h5⟩⟩
 |false=>
  obtain⟨_,_,_,_,_,hs⟩:=hh.has;have b4:=hh.len;refine bq rfl ⟨_,rfl,_,_,_,ae hs rfl,bq (by simp;omega) ⟨_,_,_,ae I.has rfl,(hh.unit Q rfl (by omega) hl).mono ?_⟩⟩;rintro e w9⟨r,rfl,hr,k9,m9⟩;have n9:bO w9 Y _:=I.has.keep m9 λe=>e X;refine⟨r,rfl,ah (λJ=>?_) (λJ=>?_)⟩
  .have J: ¬uB cs c:=λe=>by rw[hr.2 e]at J;cases J
   refine⟨_,_,_,ae n9 rfl,(k9.first Q rfl (by omega) hl).mono ?_⟩;rintro e aw⟨r2,rfl,U,Z,O⟩;have aT:bO aw Y _:=n9.keep O λe=>e X;refine⟨_,rfl,ah (λr3=>?_) (λr3=>?_)⟩
   .exact ⟨7,rfl,fm (m9.trans O),.inr (.inr ⟨rfl,λe=>e.elim J λe=> (by rw[U.2 e]at r3;cases r3),rfl,eh Z⟩)⟩
   .have hf:fB cs c:=U.1 (by simpa using r3);refine⟨_,_,_,ae aT rfl,(Z.add Q rfl hlen hl hk).mono ?_⟩;rintro e bk⟨rfl,a8,ay⟩;exact⟨rfl,0,rfl,fm ((m9.trans O).trans ay),.inr (.inl ⟨rfl,.inr hf,rfl,eh a8⟩)⟩
  .have J:uB cs c:=hr.1 (by simpa using J);refine⟨_,_,_,ae n9 rfl,(k9.add Q rfl hlen hl hk).mono ?_⟩;rintro e bi⟨rfl,az,a_⟩;exact⟨rfl,0,rfl,fm (m9.trans a_),.inr (.inl ⟨rfl,.inl J,rfl,eh az⟩)⟩
end
