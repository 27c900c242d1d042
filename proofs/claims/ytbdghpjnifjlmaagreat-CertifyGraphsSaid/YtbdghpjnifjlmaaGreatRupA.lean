/- Layer 7: a formula begins to be worked on. -/
import Derived.Test.YtbdghpjnifjlmaaGreatPropC
import Derived.Test.YtbdghpjnifjlmaaGreatPropB
import Derived.Test.YtbdghpjnifjlmaaGreatSortA
set_option linter.all false
namespace Go.Proofs.YtbdghpjnifjlmaaGreat.W
open Go Go.Fw Go.RowKit Go.SoP Go.LiP
open Go.Proofs.Tryz (prog)
open Go.IntKind (i64)
section
variable{W w w' w0 w2 w3:World}{nb b ib ab k:Nat}{vars:Int}{id id':List (Int × Int)}{cs ms:lq}{t:Bool}{cp:sn}{n cc:Nat}{c:List Int}
theorem iO{l:lq}{i:Nat}(h:i<l.length):l.getD i []∈l:=by simp[List.getD,h]
theorem dN{α:Type}{l:List α}{i:Nat}(h:i<l.length)(d:α):l.take (i+1)=l.take i++ [l.getD i d]:=by
 rw[Wo];simp[List.getD,h]
theorem PD{p2 p3 p4:Value}{q:sn}{m d:Nat}{hs:List Sl}(V:bO w nb #[.i vars,.map (some ib),p2,p3,p4])(X:MV sT w ib id)(uO:yE id)(aw:nb≠ib)(hW:ak W w)(y1:W.heap.size<=nb)(y2:W.heap.size<=ib)
 (hv:V2 sT W q hs cs) (hm:m=cs.length) (ag:∀c∈cs,c.length<=4096/\∀x∈c,cC x=true/\Nt id x) (hlen:cs.length<262144) (cb:id.length<=1048576):
 Calls prog 96 #[cj nb,.slice q m d] w λe w'=>e=.returned (.tuple #[])/\Wk true (λ_=>False) W w' nb (cs.foldl wI vars) id cs cs.length:=by
 subst hm;refine jP.aj ⟨_,rfl,_,ae V rfl,_,X.len lg _,?_⟩;refine(zX (k:=(id.length:Int)) (cs:= []) (hs:= []) (q:=none) (m:=0) (d:=0) V2.nil rfl).mono ?_;have a8:c5 (id.length:Int) []=true:=by unfold c5;simp;omega
 rintro e w4 (⟨hf,_⟩| ⟨_,b,s,H,rfl,pm,g,N,gw,fo⟩)
 .rw [a8]at hf;cases hf
 have a6:=V.grow gw;have a':=X.grow gw;have zw:=hW.size;have z4:=gw.size;have i1:=V.lt;have i2:=X.lt;refine⟨_,_,rfl,_,rfl,cz a6 rfl rfl λw8 bb M8=>?_⟩;intro n9 Z ni;have b9:=ni.num;have z8:=M8.size;have ac:bO Z nb _:=bb.grow ni.mod;refine⟨_,rfl,cz ac rfl rfl λb6 an ap=>⟨_,rfl,cz an rfl rfl λJ av aa=>?_⟩⟩;have Q:aE (·=nb) w4 J:=((M8.grow ni.mod).trans ap).trans aa;have bg:aE (·=nb) Z J:=ap.trans aa;have aT:n9≠nb:=by omega
 have az:s.vars=id.length:=by have:=N.v;simpa using this
 have b4:s.nc=0:=N.n;have U:∀x k,own b H x=some k->W.heap.size<=k/\w.heap.size<=k/\k<w4.heap.size:=λx k e=>⟨by have:=fo x k e;omega,fo x k e,pm.lt x k e⟩
 have aZ:∀i,¬s.aN i:=λi h=>by have:=h.1;omega
 have hB:RB W J nb b ib n9 vars id H s none 0 [] [] λ_=> []:=by
  refine⟨av,pm.keep Q λx k Y e=>?_,g,a'.keep Q λe=>aw e.symm,(MV.new ni).keep bg aT,Ow.nil _ _ _,λx hx=>by simp at hx,λx k Y=>?_,?_,λx hx=>by simp at hx,?_,?_,N.be,uO,az,by simp,λi=>by simp[aZ],λi hi=>by simp at hi,λi hi=>by simp at hi,λi hi=>absurd hi (aZ i),λi hi=>by simp at hi,λi hi=>by simp at hi,λx hx=>by simp at hx,by simp⟩
  .have:=U x k Y;omega
  .have:=U x k Y;exact⟨by omega,by omega,by omega,by simp[aF]⟩
  .exact ⟨aw,by omega,by omega,by simp[aF],by simp[aF],by simp[aF]⟩
  .exact (hW.trans gw).then Q λk Y e=>by omega
  .exact ⟨y1,y2,by omega,by simp[aF],λx k Y=> (U x k Y).1⟩
 have bf:Wk true (λ_=>False) W J nb vars id [] 0:=⟨b,ib,n9,H,s,none,0,[],[],_,hB,rfl,by omega,λ_=>N.tr,λj hj=>hj.elim⟩
 refine⟨λI u z=>∃v:Nat,I=v/\v<=cs.length/\z=cs.length - v/\Wk true (λ_=>False) W u nb ((cs.take v).foldl wI vars) id (cs.take v) v,⟨_,0,rfl,xc _,rfl,bf⟩,?_⟩;rintro I u z _⟨v,rfl,b8,rfl,ku⟩;refine ah (λr=>?_) (λr=>?_)
 .have r:v<cs.length:=by simpa using r
  have O:=iO r;refine(hv.grow ku.wg).ix (by omega) rfl (by omega) λa sl k1 k0 k2 k3 k4=>⟨_,_,_,k1,?_⟩
  rw[tn]at k0 k2;obtain⟨r1,r2,r3⟩:=hv.r v r;rw[<- k0]at r3;refine(ku.add r3 k2 (ag _ O).1 (ag _ O).2 (by omega)).mono ?_;rintro e b_⟨rfl,a_,_⟩;refine⟨rfl,_,?_,v+1,wN,r,rfl,?_⟩
  .omega
  .rw [dN r [],Y2];exact a_
 .have r:v=cs.length:=by simp at r;omega
  subst r;rw[L0]at ku;exact⟨rfl,ku⟩
def wK(cs:lq):Nat:=(cs.map List.length).sum
theorem wD(cs:lq)(c:List Int):wK (cs++ [c])=wK cs+c.length:=by unfold wK;simp
theorem O6{i:Nat}(h:i<cs.length):wK (cs.take (i+1))=wK (cs.take i)+ (cs.getD i []).length:=by rw[dN h [],wD]
theorem F6(i:Nat):wK (cs.take i)<=wK cs:=by
 have h:=congrArg wK (WN i cs);have e:∀a b:lq,wK (a++b)=wK a+wK b:=λa b=>by unfold wK;simp
 rw[e]at h;omega
theorem Fm{v:Int}{p q:sn}{n d m e:Nat}{hs ks:List Sl}(hv:V2 sT w p hs cs)(hn:n=cs.length)(hw:V2 sT w q ks ms)(hm:m=ms.length)
 (Y:∀c∈cs,c.length<=4096/\∀x∈c,cC x=true) (aw:∀c∈ms,c.length<=50000/\∀x∈c,cC x=true) (hlen:cs.length<262144) (b6:ms.length<=1000000):
 Calls prog 56 #[.agg #[.i v,.slice p n d],.slice q m e] w λe w'=>∃ (nb:Nat) (id:List (Int × Int)),e=.returned (cj nb)/\Wk true (λ_=>False) w w' nb (cs.foldl wI v) id cs cs.length/\(∀c∈cs++ms,∀x∈c,Nt id x):=by
 subst hn hm;refine nU.aj ?_;intro n1 w2 h2;have e2:=h2.num;refine⟨_,ae h2.has rfl,?_⟩;intro V w5 h5;have e5:=h5.num;have z2:=h2.mod.size;have s2:=h2.size;intro n6 Z h7;have e7:=h7.num;have s5:=h5.size;have G7:ak w Z:=(h2.mod.trans h5.mod).trans h7.mod;have ax:bO Z n1 _:=(h2.has.grow h5.mod).grow h7.mod;refine⟨_,_,_,ae ax rfl,?_⟩;have a6:yE []:=⟨by simp,λj hj=>by simp at hj,λx X=>by simp at X⟩
 refine⟨λI u z=>∃ (i:Nat) (id:List (Int × Int)),I=i/\i<=cs.length/\z=cs.length - i/\aE (·=V) Z u/\MV sT u V id/\yE id/\∀c∈cs.take i,∀x∈c,Nt id x,
  ⟨_,0,[],rfl,xc _,rfl,aE.refl _,(MV.new h5).grow h7.mod,a6,λc J=>by simp at J⟩,?_⟩
 rintro I u z _⟨i,id,rfl,hi,rfl,O,mu,Q,hN⟩;have Rt:=hv.Rt;have a_:=hw.Rt;have bk:∀ {u:World},aE (·=V) Z u->V2 sT u p hs cs:=λO=> (hv.grow G7).mK O λk hk e=>by have:=Rt k hk;omega
 have bf:∀ {u:World},aE (·=V) Z u->V2 sT u q ks ms:=λO=> (hw.grow G7).mK O λk hk e=>by have:=a_ k hk;omega
 have ac:∀ {u:World},aE (·=V) Z u->bO u n6 #[.i v,.map (some V),.pointer none,.slice none 0 0,.map none]:=λO=>h7.has.keep O (by omega);have bg:∀ {u:World},aE (·=V) Z u->bO u n1 #[.i v,.slice p cs.length d]:=λO=>ax.keep O (by omega);refine ah (λr=>?_) (λr=>?_)
 .have r:i<cs.length:=by simpa using r
  have U:=iO r;have bu:=Q.le;have bb:=(Y _ U).1;refine(bk O).ix (by omega) rfl (by omega) λa sl k1 k0 k2 k3 k4=>⟨_,_,_,k1,?_⟩
  rw[tn]at k2 k4 k0;obtain⟨r1,r2,r3⟩:=hv.r i r;rw[<- k0]at r3;refine(IK (ac O) mu Q (by omega) k4 (λan e=>by have:=r3.lt an V e;omega) k2 (Y _ U).2 (by omega)).mono ?_;rintro e a'⟨rfl,id',ag,aa,nt⟩;refine⟨rfl,_,?_,i+1,id',wN,r,rfl,O.trans ag,aa,nt.rQ,λc J x X=>?_⟩
  .omega
  .rw [dN r []]at J;rcases y4.1 J with J|J
   .exact nt.kp x (hN c J x X)
   .rw [xv]at J;subst J;exact nt.all x X
 have r:i=cs.length:=by simp at r;omega
 subst r;rw[L0]at hN;refine⟨λI u z=>∃ (i:Nat) (id:List (Int × Int)),I=i/\i<=ms.length/\z=ms.length - i/\aE (·=V) Z u/\MV sT u V id/\yE id/\∀c∈cs++ms.take i,∀x∈c,Nt id x,
  ⟨_,0,id,rfl,xc _,rfl,O,mu,Q,λc J=>by simp at J;exact hN c J⟩,?_⟩
 clear O mu Q hN;rintro I u z _⟨i,id,rfl,hi,rfl,O,mu,Q,hN⟩;refine ah (λr=>?_) (λr=>?_)
 .have r:i<ms.length:=by simpa using r
  have U:=iO r;have bu:=Q.le;have bb:=(aw _ U).1;refine(bf O).ix (by omega) rfl (by omega) λa sl k1 k0 k2 k3 k4=>⟨_,_,_,k1,?_⟩
  rw[tn]at k2 k4 k0;obtain⟨r1,r2,r3⟩:=hw.r i r;rw[<- k0]at r3;refine(IK (ac O) mu Q (by omega) k4 (λan e=>by have:=r3.lt an V e;omega) k2 (aw _ U).2 (by omega)).mono ?_;rintro e a'⟨rfl,id',ag,aa,nt⟩;refine⟨rfl,_,?_,i+1,id',wN,r,rfl,O.trans ag,aa,nt.rQ,λc J x X=>?_⟩
  .omega
  .rw [dN r [],<- WH]at J;rcases y4.1 J with J|J
   .exact nt.kp x (hN c J x X)
   .rw [xv]at J;subst J;exact nt.all x X
 have r:i=ms.length:=by simp at r;omega
 subst r;rw[L0]at hN;refine⟨_,_,_,ae (bg O) rfl,?_⟩;have Gu:ak w u:=G7.then O λk hk e=>by omega
 refine(PD (ac O) mu Q (by omega) Gu (by omega) (by omega) hv rfl (λc J=>⟨(Y c J).1,λx X=>⟨(Y c J).2 x X,hN c (Wq _ J) x X⟩⟩) hlen Q.le).mono ?_;rintro e b9⟨rfl,bi⟩;exact⟨rfl,n6,id,rfl,bi,hN⟩
end
section
variable{cs cs':lq}{c d T T':List Int}{v:Int}
theorem N4(h:∀x∈cs,x∈cs')(I:DJ cs d T):DJ cs' d T:=by
 induction I with
 |refl=>exact .refl
 |step h1 h2 h3 ih=>exact .step ih (h _ h2) h3
theorem IV(h:∀x∈cs,x∈cs')(hu:uB cs c):uB cs' c:=by
 rcases hu with ht| ⟨T,J,x,I,hb⟩
 .exact .inl ht
 .exact .inr ⟨T,N4 h J,x,h x I,hb⟩
theorem yi:∀ (c:List Int) (o:Int),(∀x∈c,(x∈T↔x∈T')/\(-x∈T↔ -x∈T'))->kH T c o=kH T' c o
 | [],_,_=>rfl
 |x::c,o,h=>by
  obtain⟨h1,I⟩:=h x (Wb ..);have J:=λo=>yi c o λy O=>h y (xk _ O);unfold kH;by_cases a:x∈T
  .rw [v8 a,v8 (h1.1 a)]
  .rw [r8 a,r8 λe=>a (h1.2 e)];by_cases b: -x∈T\/x=o
   .rw [v8 b,v8 (Or.imp I.1 (λe=>e) b)];exact J o
   .rw [r8 b,r8 λe=>b (Or.imp I.2 (λe=>e) e)];split
    .rfl
    .exact J x
theorem Oc(V:NZ cs)(hv:v≠0)(hf:∀c∈cs,v ∉ c/\ -v ∉ c):uB cs [v]↔uB cs []:=by
 have key:∀c∈cs,∀T:List Int,dz c (-v::T)=dz c T/\cS c (-v::T)=cS c T:=λc X T=>by
  have I:∀x∈c,(x∈ -v::T↔x∈T)/\(-x∈ -v::T↔ -x∈T):=λx I=>by
   have h1:x≠ -v:=λe=> (hf c X).2 (e▸I);have O: -x≠ -v:=λe=> (hf c X).1 (by have:x=v:=(by omega);exact this▸I);simp[h1,O]
  refine⟨yi c 0 I,?_⟩;rw[W4,cU,cU];exact⟨λh x J=> ((I x J).2).1 (h x J),λh x J=> ((I x J).2).2 (h x J)⟩
 have Q:∀ {T},DJ cs [] T->DJ cs [-v] (-v::T):=by
  intro T h
  induction h with
  |refl=>exact .refl
  |step h1 O h3 ih=>
   rename_i t c;rw[<- Yg,<- (key c O t).1];exact .step ih O (by rw[(key c O t).1];exact h3)
 obtain⟨T,Z,Y⟩:=y7 (cs:=cs) (d:= []) V _ _ (vy _) .refl;have e1:vo [v]= [-v]:=rfl;have ht:nh [v]=false:=by
  rw[<- WI,mJ];rintro⟨x,I,J⟩;rw[xv]at I J;omega
 have U:(∃x∈cs,cS x (-v::T)=true)↔∃x∈cs,cS x T=true:=
  ⟨λ⟨x,I,h⟩=>⟨x,I,by rwa [(key x I T).2]at h⟩,λ⟨x,I,h⟩=>⟨x,I,by rwa [(key x I T).2]⟩⟩
 rw[AP V ht (T:= -v::T) (by rw[e1];exact Q Z) (Y.imp (λh=>U.2 h) λh x I=>by rw[(key x I T).1,(key x I T).2];exact h x I),AP (c:= []) V rfl Z Y,U]
open Classical in
noncomputable def CE(cs:lq)(c:List Int):Nat->List Nat->List Nat
 |0,K=>K
 |i+1,K=>CE cs c i (if uB (cs.take i++K.map λj=>cs.getD j []) c then K else i::K)
theorem Ae{i:Nat}{K:List Nat}(hu:uB (cs.take i++K.map λj=>cs.getD j []) c):CE cs c (i+1) K=CE cs c i K:=by rw[CE,v8 hu]
theorem tw{i:Nat}{K:List Nat}(hu: ¬uB (cs.take i++K.map λj=>cs.getD j []) c):CE cs c (i+1) K=CE cs c i (i::K):=by rw[CE,r8 hu]
def Li(n i:Nat)(K:List Nat):Prop:=(∀j∈K,i<=j/\j<n)/\K.Pairwise (·< ·)
theorem Li.cons{n i:Nat}{K:List Nat}(h:Li n (i+1) K)(hi:i<n):Li n i (i::K):=by
 refine⟨λj I=>?_,XA.2 ⟨λj I=>by have:=h.1 j I;omega,h.2⟩⟩;rcases V'.1 I with rfl|I
 .exact ⟨vy _,hi⟩
 .have:=h.1 j I;omega
theorem Li.Na{n i:Nat}{K:List Nat}(h:Li n (i+1) K):Li n i K:=⟨λj I=>by have:=h.1 j I;omega,h.2⟩
theorem yS{n:Nat}(hn:n=cs.length):∀ {i:Nat} {K:List Nat},i<=n->Li n i K->Li n 0 (CE cs c i K)/\(∀j∈K,j∈CE cs c i K)/\∀j∈CE cs c i K,j<i\/j∈K
 |0,K,_,h=>⟨h,λ_ h=>h,λ_ h=> .inr h⟩
 |i+1,K,hi,h=>by
  by_cases hu:uB (cs.take i++K.map λj=>cs.getD j []) c
  .rw [Ae hu];obtain⟨a,b,d⟩:=yS hn (i:=i) (K:=K) (by omega) h.Na;exact⟨a,b,λj I=> (d j I).imp (λh=>by omega) λh=>h⟩
  .rw [tw hu];obtain⟨a,b,d⟩:=yS hn (i:=i) (K:=i::K) (by omega) (h.cons (by omega));refine⟨a,λj I=>b j (xk _ I),λj I=>?_⟩;rcases d j I with h|h
   .exact .inl (by omega)
   .rcases V'.1 h with rfl|h
    .exact .inl (by omega)
    .exact .inr h
end
section
variable{W w w' w0 w2 w3 u:World}{p q:sn}{n m c d n1:Nat}{id id':List (Int × Int)}{hs ks:List Sl}{cs:lq}{l:List Int}
def Et(id id':List (Int × Int)):Prop:=∀y v,al id y=some v->al id' y=some v
theorem Et.refl(id:List (Int × Int)):Et id id:=λ_ _ h=>h
theorem Et.trans{I:List (Int × Int)}(h:Et id id')(k:Et id' I):Et id I:=λy v e=>k y v (h y v e)
theorem Et.nt(h:Et id id'){x:Int}(I:Nt id x):Nt id' x:=by
 obtain⟨v,hv⟩:=Xl.1 I.2;exact⟨I.1,by rw[h _ _ hv];rfl⟩
theorem Et.dx(h:Et id id'){x:Int}(I:Nt id x):Go.Proofs.YtbdghpjnifjlmaaGreat.W.dx id' x=Go.Proofs.YtbdghpjnifjlmaaGreat.W.dx id x:=by
 obtain⟨v,hv⟩:=Xl.1 I.2;unfold Go.Proofs.YtbdghpjnifjlmaaGreat.W.dx;rw[hv,h _ _ hv]
theorem Et.map(h:Et id id')(hl:∀x∈l,Nt id x):l.map (Go.Proofs.YtbdghpjnifjlmaaGreat.W.dx id')=l.map (Go.Proofs.YtbdghpjnifjlmaaGreat.W.dx id):=WT λx I=>h.dx (hl x I)
theorem Et.Vo(h:Et id id')(hl:∀c∈cs,∀x∈c,Nt id x):cs.map (List.map (Go.Proofs.YtbdghpjnifjlmaaGreat.W.dx id'))=cs.map (List.map (Go.Proofs.YtbdghpjnifjlmaaGreat.W.dx id)):=WT λc I=>h.map (hl c I)
theorem PK(h:yE id){a:Int}(ha:1<=a/\a<=1048576)(O:al id a=none):yE (ai id a ((id.length+1:Nat):Int))/\Et id (ai id a ((id.length+1:Nat):Int))/\(al (ai id a ((id.length+1:Nat):Int)) a).isSome/\(ai id a ((id.length+1:Nat):Int)).length=id.length+1:=by
 have I:ai id a ((id.length+1:Nat):Int)=id++ [(a,((id.length+1:Nat):Int))]:=by unfold ai;rw[O];rfl
 refine⟨⟨vX h.nd _ _,λj Q=>?_,λx J=>?_⟩,λy v e=>?_,by rw[Dk,v8 rfl];rfl,by rw[I];simp⟩
 .rw [I]at Q ⊢;rw[I',WG]at Q;by_cases e:j<id.length
  .have:=h.rQ j e;simp only[List.getD,Wd e]at this ⊢;exact this
  .have:j=id.length:=by omega
   subst this;simp[List.getD]
 .rw [I]at J;rcases y4.1 J with J|J
  .exact h.U3 x J
  .rw [xv]at J;rw[J];exact ha
 .rw [Dk,r8 λU=>by rw[U,O]at e;cases e];exact e
def CI(O:World)(n1:Nat)(J:List (Int × Int))(l:List Int)(P:sn)(N C:Nat)(I:Int)(u:World)(z:Nat):Prop:=
 ∃ (j:Nat) (id:List (Int × Int)),I=j/\j<=l.length/\z=l.length - j/\N=j/\aE (·=n1) O u/\MV sT u n1 id/\yE id/\Et J id/\id.length<=J.length+j/\(∀x∈l.take j,Nt id x)/\d_ aB u P C ((l.take j).map (dx id))/\∀k,aF P=some k->O.heap.size<=k
theorem Nc(hv:V2 sT w p hs cs)(hn:n=cs.length)(hl:∀c∈cs,∀x∈c,cC x=true)(hm:n<=100000)(ef:wK cs<=1000000):
 Calls prog 128 #[.slice p n c] w λe w'=>∃ (id:List (Int × Int)) (q:sn) (d:Nat) (ks:List Sl),e=.returned (.tuple #[.i (id.length:Int),.slice q cs.length d])/\yE id/\(∀c∈cs,∀x∈c,Nt id x)/\r_ sT aI aB w' q d ks (cs.map (List.map (dx id)))/\ak w w'/\(∀k,CR q ks k->w.heap.size<=k)/\id.length<=wK cs:=by
 subst hn;refine og.aj ?_;intro n1 w2 h2;have e1:=h2.num;have s2:=h2.size;have Rt:=hv.Rt;refine⟨λP N C I u z=>∃ (i:Nat) (id:List (Int × Int)) (ks:List Sl),I=i/\i<=cs.length/\z=cs.length - i/\N=i/\aE (·=n1) w2 u/\MV sT u n1 id/\yE id/\id.length<=wK (cs.take i)/\(∀c∈cs.take i,∀x∈c,Nt id x)/\r_ sT aI aB u P C ks ((cs.take i).map (List.map (dx id)))/\∀k,CR P ks k->w2.heap.size<=k,
  ⟨_,0,[],[],rfl,xc _,rfl,rfl,aE.refl _,MV.new h2,⟨by simp,λj hj=>by simp at hj,λx hx=>by simp at hx⟩,by simp,λc hc=>by simp at hc,⟨Ow.nil _ _ _,rfl,λj hj=>by simp at hj,λj k hj=>by simp at hj,λi j k hi=>by simp at hi⟩,λk Q=>by
    rcases Q with Q| ⟨x,hx,_⟩
    .simp [aF]at Q
    .simp at hx⟩,?_⟩
 rintro P N C I w8 z _⟨i,id,ks,rfl,hi,rfl,rfl,M8,m8,rQ,b',hN,ow,fo⟩;have i1:=m8.lt;have Gw:∀ {v:World},aE (·=n1) w2 v->ak w v:=λm=>h2.mod.then m λk Q e=>by omega
 have dq:∀ {v:World},aE (·=n1) w2 v->V2 sT v p hs cs:=λm=>hv.grow (Gw m);have z8:=M8.size;refine ah (λr=>?_) (λr=>?_)
 .have r:N<cs.length:=by simpa using r
  have bf:=iO r;have tt:=O6 r;have tl:=F6 (cs:=cs) (N+1);refine(dq M8).ix (by omega) rfl (by omega) λa sl k1 k0 k2 k3 k4=>⟨_,_,_,k1,?_⟩
  rw[tn]at k0 k2;obtain⟨_,_,r3⟩:=hv.r N r;rw[<- k0]at r3;refine⟨CI w8 n1 id (cs.getD N []),⟨_,0,id,rfl,xc _,rfl,rfl,aE.refl _,m8,rQ,Et.refl _,by omega,λx hx=>by simp at hx,by simpa using Ow.nil _ _ _,λk Q=>by simp[aF]at Q⟩,?_⟩;generalize hL:cs.getD N []=L at*
  rintro P1 U C1 I1 v z1 _⟨j,O,rfl,hj,rfl,rfl,Mv,mv,ar,bu,eb,a_,o,f⟩;have Mw:aE (·=n1) w2 v:=M8.trans Mv;have zv:=Mv.size;have hlen:((L.take U).map (dx O)).length=U:=by simp;omega
  refine ah (λr1=>?_) (λr1=>?_)
  .have r1:U<L.length:=by rw[k2]at r1;simpa using r1
   have tk:∀x,x∈L.take (U+1)↔x∈L.take U\/x=L.getD U 0:=λx=>fz r1;have d7:L.take (U+1)=L.take U++ [L.getD U 0]:=dN r1 0;refine(r3.grow (Gw Mw)).ix 0 (by omega) k2 (by omega) λa e=>⟨_,e,?_⟩
   rw[tn];have b6:=hl L bf _ (bL r1);have hb:=rz b6;have hz:=JI b6;generalize hX:L.getD U 0=X at*
   have ea:imax X (i64.wrap (0 - X))=bo X:=by
    rw[nw X hb];unfold imax bo;split<;>split<;>omega
   try dsimp only
   rw[ea];have ha:1<=bo X/\bo X<=1048576:=by unfold bo;split<;>omega
   have cT:∀id:List (Int × Int),((al id (bo X)).map sT).getD (.i 0)=.i ((al id (bo X)).getD 0):=λid=>by cases al id (bo X)<;>rfl
   have an:∀ {y:World} {id:List (Int × Int)},MV sT y n1 id->(Instr.lookup dW (.map (some n1)) (.i (bo X)) false).run prog y=.ok (.i ((al id (bo X)).getD 0)) y:=λ{y id} h=>by
    have:=h.cY lg (bo X) (rV y)
    rwa [cT]at this
   have eh:∀ (y:World) (J:List (Int × Int)),aE (·=n1) v y->MV sT y n1 J->yE J->Et O J->J.length<=id.length+ (U+1)->(al J (bo X)).isSome->
    aD (decide (X< (0:Int)))
     (∃c2 b7,(Instr.lookup dW (.map (some n1)) (.i (bo X)) false).run prog y=.ok (.i b7) c2/\
       ∀aw ay,jz (.cells #[.i (i64.wrap (0 - b7))] aB) c2 aw ay->
       ∃ax ac V ag,(Builtin.append_ #[aI,aI] aI #[.slice P1 U C1,.slice (some (qw aw)) 1 1]).run prog ay=.ok (.slice ac V ag) ax/\
       ∃Z,Z<L.length - U/\CI w8 n1 id L ac V ag (i64.wrap ((U:Int)+ (1:Int))) ax Z)
     (∃ce b9,(Instr.lookup dW (.map (some n1)) (.i (bo X)) false).run prog y=.ok (.i b9) ce/\
       ∀b_ cg,jz (.cells #[.i b9] aB) ce b_ cg->
       ∃b5 bg bi a',(Builtin.append_ #[aI,aI] aI #[.slice P1 U C1,.slice (some (qw b_)) 1 1]).run prog cg=.ok (.slice bg bi a') b5/\
       ∃Z,Z<L.length - U/\CI w8 n1 id L bg bi a' (i64.wrap ((U:Int)+ (1:Int))) b5 Z):=by
    intro y J My my bb aT c3 a8;have d5:Nt J X:=⟨hz,a8⟩
    have c0:∀x∈L.take (U+1),Nt J x:=λx hx=>by
     rcases(tk x).1 hx with h|rfl
     .exact aT.nt (a_ x h)
     .exact d5
    have a6:(L.take (U+1)).map (dx J)=(L.take U).map (dx O)++ [dx J X]:=by
     rw[d7,GD,aT.map a_];rfl
    have ey:0<=(al J (bo X)).getD 0/\(al J (bo X)).getD 0<=2000000:=by
     obtain⟨vv,cm⟩:=Xl.1 a8;obtain⟨jj,el,_,rfl⟩:=bb.get cm;rw[cm];simp only[Wn];have eA:=hl L bf;omega
    have dT:=Mv.trans My;have oy:d_ aB y P1 C1 ((L.take U).map (dx O)):=o.keep My λk Q e=>by have:=f k Q;omega
    have add:∀ (yv:Int),yv=dx J X->∀aw ay,jz (.cells #[.i yv] aB) y aw ay->
          ∃ax ac V ag,(Builtin.append_ #[aI,aI] aI #[.slice P1 U C1,.slice (some (qw aw)) 1 1]).run prog ay=.ok (.slice ac V ag) ax/\
          ∃Z,Z<L.length - U/\CI w8 n1 id L ac V ag (i64.wrap ((U:Int)+ (1:Int))) ax Z:=by
     rintro yv rfl aw ay av;have ep:=av.num;have zy:=My.size;refine Ow.jS cR (oy.grow av.mod) (dx J X) av.has rfl hlen.symm eI (by rw[hlen];omega) λax p' c' b8 co bk dA=>?_;rw[<- a6]at b8;rw[hlen];have iy:=my.lt;have bx:aF P1≠some n1:=λe=>by have:=f n1 e;omega
     refine⟨_,by omega,U+1,J,wN,r1,rfl,rfl,(dT.grow av.mod).then co λk Q e=>by have:=f k e;omega,(my.grow av.mod).keep co bx,bb,bu.trans aT,c3,c0,b8,λk Q=>?_⟩;have ej:=av.size;rcases bk with rfl|rfl
     .exact f k Q
     .have:=aO Q;omega
    refine ah (λY=>⟨_,_,an my,?_⟩) (λY=>⟨_,_,an my,?_⟩)
    .have Y:X<0:=by simpa using Y
     rw[show i64.wrap (0 - (al J (bo X)).getD 0)= -((al J (bo X)).getD 0) by rw[ao (by omega) (by omega)];omega];exact add _ (by unfold dx;rw[v8 Y])
    .have Y: ¬X<0:=by simpa using Y
     exact add _ (by unfold dx;rw[r8 Y])
   refine⟨_,_,an mv,ah (λY=>?_) (λY=>?_)⟩
   .have Y:(al O (bo X)).getD 0=0:=by simpa using Y
    have d9:al O (bo X)=none:=by
     cases hv':al O (bo X) with
     |none=>rfl
     |some v'=>
      obtain⟨jj,_,_,rfl⟩:=ar.get hv';rw[hv']at Y;simp only[Wn]at Y;omega
    refine⟨_,mv.len lg _,?_⟩;rw[wN (i:=O.length+1) (by omega) (by omega)];obtain⟨cr,hr,du,mm,_⟩:=mv.put lg (bo X) ((O.length+1:Nat):Int);obtain⟨a1,a2,a3,a4⟩:=PK ar ha d9;exact⟨cr,hr,eh cr _ mm du a1 a2 (by rw[a4];omega) a3⟩
   .have Y:(al O (bo X)).getD 0≠0:=by simpa using Y
    have a8:(al O (bo X)).isSome:=by
     cases hv':al O (bo X) with
     |none=>rw[hv']at Y;simp at Y
     |some v'=>rfl
    exact eh v O (aE.refl _) mv ar (Et.refl _) (by omega) a8
  .have r1:U=L.length:=by rw[k2]at r1;simp at r1;omega
   subst r1;rw[L0]at o a_ hlen;intro n47 es ap;have eF:=ap.num;have a6:(cs.take (N+1)).map (List.map (dx O))=(cs.take N).map (List.map (dx id))++ [L.map (dx O)]:=by
    rw[dN r [],GD,bu.Vo hN,hL];rfl
   have d4:r_ sT aI aB v P C ks ((cs.take N).map (List.map (dx id))):=ow.keep Mv λk Q e=>by have:=fo k Q;omega
   have d8:=ow.lt;have bn:((cs.take N).map (List.map (dx id))).length=N:=by simp;omega
   refine r_.jS (s:=⟨P1,L.length,C1⟩) (x:=L.map (dx O)) iP (d4.grow ap.mod) ap.has bn.symm (o.grow ap.mod) (by simp) (λk Q hf=>by have:=f k Q;have:=d8 k hf;omega) (by rw[bn];omega) λeu p' c' c4 c1 bk dA=>?_;rw[<- a6]at c4;rw[bn];have bx:aF P≠some n1:=λe=>by have:=fo n1 (.inl e);omega
   refine⟨_,?_,N+1,O,_,wN,r,rfl,rfl,(Mw.grow ap.mod).then c1 λk Q e=>by have:=fo k (.inl e);omega,(mv.grow ap.mod).keep c1 bx,ar,by omega,λc hc x hx=>?_,c4,λk Q=>?_⟩
   .omega
   .rw [dN r []]at hc;rcases y4.1 hc with hc|hc
    .exact bu.nt (hN c hc x hx)
    .rw [xv,hL]at hc;subst hc;exact a_ x hx
   .have eL:=ap.size;rcases Q with Q| ⟨x,hx,Q⟩
    .rcases bk with rfl|rfl
     .exact fo k (.inl Q)
     .have:=aO Q;omega
    .rcases y4.1 hx with hx|hx
     .exact fo k (.inr ⟨x,hx,Q⟩)
     .rw [xv]at hx;subst hx;have:=f k Q;omega
 .have r:N=cs.length:=by simp at r;omega
  subst r;rw[L0]at ow hN b';refine⟨_,m8.len lg _,id,P,C,ks,rfl,rQ,hN,ow,Gw M8,λk Q=>?_,b'⟩;have:=fo k Q;omega
end
section
variable{W w w' w0 w2 w3:World}{b n cc nt:Nat}{H H' H2:Pt->Sl}{s t u s':aH}{cp:sn}{c:List Int}{cs:lq}
structure VX(s s':aH)(c:List Int)(j:Nat):Prop where
 g:aL s'
 k:zF s s'
 dt:s'.wL=s'.R .tr
 bt:(s'.R .be).length=(s'.R .tr).length
 b0:s'.R .be≠[]->(s'.R .be).getD 0 0=0
 fw:∀x∈c.take j,-x∈s'.R .tr
 bw:∀y∈s'.R .tr,∃x∈c.take j,y= -x
theorem Rs(h:PM w b H s)(g:aL s)(U:s.R .be= [])(ag:s.R .tr= [])(ht:bO w nt #[cj b,.slice cp n cc])(bi:∀x,own b H x≠some nt)(hc:Vw sT w cp c)(bu:∀k,aF cp=some k->∀x,own b H x≠some k)(hn:n=c.length)(b4:c≠[])(Q:n<=100000)
 (b5:∀x∈c,dZ s.vars x) (Z:nh c=false) (bf:∀x,x∈cs↔s.BD x):
 Calls prog 130 #[cj nt] w λe w'=>∃r:Bool,e=.returned (.bool r)/\(r=true↔uB cs c)/\∃H' s',Pw w w' b H H' s'/\aL s'/\zF s s'/\s'.R .be= []/\s'.R .tr= []:=by
 subst hn;refine gX.aj ⟨_,rfl,_,ae ht rfl,_,rfl,_,_,_,ae ht rfl,?_⟩;refine⟨λI u z=>∃j:Nat,I=j/\j<=c.length/\z=c.length - j/\∃H' s',Pw w u b H H' s'/\VX s s' c j,⟨_,0,rfl,xc _,rfl,H,s,Pw.refl h (aE.refl _),
  ⟨g,.refl s,by unfold aH.wL;rw[U,ag];rfl,by rw[U,ag],λe=>absurd U e,λx Q=>by simp at Q,λy J=>by rw[ag]at J;simp at J⟩⟩,?_⟩
 rintro I u z _⟨j,rfl,hj,rfl,H1,O,P1,R⟩;have bb:Vw sT u cp c:=hc.keep P1.mod λk hk ⟨x,e⟩=>bu k hk x e;have ac:bO u nt _:=ht.keep P1.mod λ⟨x,e⟩=>bi x e;have k1:=R.g.wf;refine ah (λr=>?_) (λr=>?_)
 .have r:j<c.length:=by simpa using r
  have hm:=bL r;have tk:∀x,x∈c.take (j+1)↔x∈c.take j\/x=c.getD j 0:=λx=>fz r;refine bb.ix 0 (by omega) rfl (by omega) λa e=>⟨_,e,_,rfl,_,ae ac rfl,?_⟩
  rw[tn];generalize hX:c.getD j 0=X at*
  have hv:dZ O.vars X:=by rw[R.k.v];exact b5 X hm
  refine(Br P1.pm k1 _).mono ?_;rintro e b3⟨rfl,az⟩;have an:=P1.grow az;have aT:O.value X=O.val X:=by
   unfold aH.value;rw[(iX R.g.eM).2 hv];rfl
  rw[aT];refine⟨_,rfl,ah (λr2=>?_) (λr2=>?_)⟩
  .have r2:O.val X=0:=by simpa using r2
   refine⟨_,rfl,_,ae (ac.grow az) rfl,?_⟩;rw[nw _ (hv.bd R.g.eM)];have ay:O.val (-X)=0:=by rw[pN hv,r2];rfl
   refine(wP an.pm R.g (-X)).mono ?_;rintro e bk⟨r,rfl,H',hd⟩;obtain⟨rfl,P⟩:r=0/\Pw b3 bk b H1 H' (O.decide (-X)):=hd.elim (λh=>⟨h.1,h.2.2.2⟩) λh=>absurd ⟨hv.neg,ay⟩ h.2.1;have V:=CT (s:=O) (-X);have av:=Cj O (-X);refine⟨_,rfl,_,by omega,j+1,wN,r,rfl,H',_,an.trans P,⟨px R.g hv.neg ay,R.k.trans (.decide O _),by rw[zD R.g,R.dt,V],by rw[av,V];simp[R.bt],λ_=>?_,λx Q=>?_,λy J=>?_⟩⟩
   .rw [av];cases U:O.R .be with
    |nil=>
     have:=R.bt;rw[U]at this;rw[<- this];rfl
    |cons y l=>
     have:=R.b0 (by rw[U];simp);rw[U]at this;simpa using this
   .rw [V];rcases(tk x).1 Q with Q|rfl
    .exact Wq _ (R.fw x Q)
    .simp
   .rw [V]at J;rcases y4.1 J with J|J
    .obtain ⟨x,Q,e⟩:=R.bw y J;exact⟨x,(tk x).2 (.inl Q),e⟩
    .rw [xv]at J;exact⟨X,(tk X).2 (.inr rfl),J⟩
  .have r2: ¬O.val X=0:=by simpa using r2
   have r1: ¬O.val X=1:=λr1=>by
    obtain⟨x',bg,e⟩:=R.bw _ ((R.g.v1 _ hv).1 r1);have:nh c=true:=mJ.2 ⟨x',Wh bg,e▸hm⟩;rw[Z]at this;cases this
   have a':O.val X= -1:=by
    rcases aH.rD k1 X with e|e|e
    .exact absurd e r2
    .exact absurd e r1
    .exact e
   have a_:=(R.g.vm hv).1 a';refine⟨_,by omega,j+1,wN,r,rfl,H1,O,an,⟨R.g,R.k,R.dt,R.bt,R.b0,λx Q=>?_,λy J=>?_⟩⟩
   .rcases (tk x).1 Q with Q|rfl
    .exact R.fw x Q
    .exact a_
   .obtain ⟨x,Q,e⟩:=R.bw y J;exact⟨x,(tk x).2 (.inl Q),e⟩
 .have r:j=c.length:=by simp at r;omega
  subst r;refine⟨_,rfl,_,ae ac rfl,(GQ P1.pm R.g).mono ?_⟩;rintro e cm⟨r,rfl,s2,H2,P2,g2,x,hT⟩;have PP:=P1.trans P2;have kk:=R.k.trans (.ext x);have fw:∀x∈c,-x∈O.R .tr:=λx Q=>R.fw x (by rw[L0];exact Q);have aw:s2.wL=O.R .tr:=by rw[IG R.g x,R.dt]
  have ar:∀y,y∈cs↔s2.BD y:=λy=>by
   rw[bf];unfold aH.BD;exact⟨λ⟨i,hi,e⟩=>⟨i,kk.lN.2 hi,by rw[kk.a];exact e⟩,λ⟨i,hi,e⟩=>⟨i,kk.lN.1 hi,by rw[<- kk.a];exact e⟩⟩
  have key:=Ej (cs:=cs) (c:=c) g2 hT ar Z (λy J=>x.mem (fw y J)) (λy J=>by
   rw[aw]at J;obtain⟨z,hz,rfl⟩:=R.bw y J;rw[WJ];exact Wh hz)
  have a7:s2.R .be≠[]:=by
   rw[x.be];intro e2;have:=R.bt;rw[e2]at this;have a8:=Wa this.symm;have:=fw _ (List.head_mem b4);rw[a8]at this;simp at this
  have b6:(s2.R .be).getD 0 0=0:=by rw[x.be];exact R.b0 (by rw[<- x.be];exact a7)
  have Y:0< (s2.R .be).length:=Wx.2 a7;refine⟨_,rfl,(Gn PP.pm g2 0).mono ?_⟩;rintro e u' c0⟨rfl,rfl,H3,P3⟩;have hz:(max (0:Int) 0).toNat=0:=rfl;rw[hz,v8 Y]at P3;obtain⟨_,_,_,_,e1,e2⟩:=xD (s:=s2) 0;refine⟨rfl,_,rfl,_,rfl,by rw[x7];exact key,H3,_,PP.trans P3,l4 g2 Y,kk.trans (zF.bV s2 0),by rw[e1];rfl,by rw[e2,b6];rfl⟩
end
section
variable{W w w' w0 w2 w3 u:World}{p q:sn}{n m d b nl i:Nat}{id:List (Int × Int)}{hs ks:List Sl}{cs R:lq}{c l:List Int}{H H' H2:Pt->Sl}{s t s':aH}{K:List Nat}{vars:Nat}
theorem JP{e:Nat}(h:Vw Sl.v w p hs)(hn:n=hs.length)(hm:n<=100000):Calls prog 129 #[.slice p n e] w λe w'=>∃ (q:sn) (d:Nat),e=.returned (.slice q hs.length d)/\Ow Sl.v aI w' q d hs/\ak w w'/\(∀b,aF q=some b->w.heap.size<=b):=by
 refine c6.aj ?_;refine ah (λs=>?_) (λs=>?_)
 .have hp:p=none:=by cases p<;>simp at s ⊢
  subst hp;have:hs= []:=by
   rcases hs with _| ⟨x,l⟩
   .rfl
   .obtain ⟨a,ha,_⟩:=h 0 (by simp);cases ha
  subst this;exact⟨none,0,rfl,Ow.nil _ _ _,aE.refl w,λb hb=>by simp[aF]at hb⟩
 .intro n1 w1 h1;refine Ow.uv (l:=([]:List Sl)) iP (jz.RQ h1) (h.grow h1.mod) rfl hn (λ_=>rfl) (by simp;omega) λw2 J Q o2 m2 I O=>?_;rw[WY]at o2 ⊢;have U:=h1.num;refine⟨J,Q,rfl,o2,h1.mod.then m2 λb hb e=>?_,λb hb=>?_⟩
  .have:=aO e;omega
  .have:=h1.mod.size;rcases I with rfl|rfl
   .have:=aO hb;omega
   .have:=aO hb;omega
def oG(id:List (Int × Int))(c:List Int):List Int:=if c= [] then [((id.length+1:Nat):Int)] else c.map (dx id)
def pL(id:List (Int × Int))(c:List Int):Nat:=if c= [] then id.length+1 else id.length
theorem FF{n m:Nat}{x:Int}(h:dZ n x)(hm:n<=m):dZ m x:=by unfold dZ at*;omega
theorem Je:oG id c≠[]:=by
 unfold oG;split
 .simp
 .rename_i h;simpa using h
theorem JJ(uO:yE id)(hN:∀x∈c,Nt id x):∀x∈oG id c,dZ (pL id c) x:=by
 intro x I;unfold oG pL at*
 split at I
 .rename_i h;rw[v8 h];rw[xv]at I;subst I;unfold dZ;omega
 .rename_i h;rw[r8 h];obtain⟨y,J,rfl⟩:=LV.1 I;exact uO.tI (hN y J)
theorem Cq(uO:yE id)(hN:∀x∈c,Nt id x)(ht:nh c=false):nh (oG id c)=false:=by
 unfold oG;split
 .rw [<- WI,mJ];rintro⟨x,J,I⟩;rw[xv]at J I;omega
 .rw [uO.dx.Jr hN];exact ht
theorem IH(uO:yE id)(I:∀c∈cs,∀x∈c,Nt id x)(hN:∀x∈c,Nt id x):uB (cs.map (List.map (dx id))) (oG id c)↔uB cs c:=by
 have X:NZ (cs.map (List.map (dx id))):=λx U y O=>by
  obtain⟨V,J,rfl⟩:=LV.1 U;obtain⟨Y,Q,rfl⟩:=LV.1 O;exact uO.dx.nz _ (I _ J _ Q)
 unfold oG;split
 .rename_i h;subst h;rw[Oc X (by omega) (λx U=>by
   obtain⟨V,J,rfl⟩:=LV.1 U;refine⟨λe=>?_,λe=>?_⟩
   .obtain ⟨y,O,e⟩:=LV.1 e;have:=uO.tI (I _ J y O);unfold dZ at this;omega
   .obtain ⟨y,O,e⟩:=LV.1 e;have:=uO.tI (I _ J y O);unfold dZ at this;omega)]
  have:=uO.dx.VB (c:= []) I (by simp);simpa using this
 .exact uO.dx.VB I hN
structure Lf(s:aH)(R:lq)(i:Nat)(K:List Nat)(m:List (Int × Int))(num:Nat->Nat):Prop where
 g:aL s
 tr:s.R .tr= []
 be:s.R .be= []
 al:∀j:Nat,al m (j:Int)=if j<i\/j∈K then some ((num j:Nat):Int) else none
 th:∀t,s.aN t↔∃j,(j<i\/j∈K)/\num j=t
 a:∀j,j<i\/j∈K->s.R (.a (num j))=R.getD j []
 inj:∀j j',(j<i\/j∈K)->(j'<i\/j'∈K)->num j=num j'->j=j'
 nc:s.nc+i<=2*R.length
 v:s.vars=vars
theorem Lf.drop{m:List (Int × Int)}{num:Nat->Nat}(h:Lf (vars:=vars) s R (i+1) K m num)(U:∀j∈K,i<j):s.aN (num i)/\aL (s.drop (num i))/\(s.drop (num i)).R .tr= []/\(s.drop (num i)).R .be= []/\(∀t,(s.drop (num i)).aN t↔∃j,(j<i\/j∈K)/\num j=t)/\
 (∀j,j<i\/j∈K->(s.drop (num i)).R (.a (num j))=R.getD j []):=by
 have J:s.aN (num i):=(h.th _).2 ⟨i,.inl (by omega),rfl⟩;have up:∀ {j},j<i\/j∈K->j<i+1\/j∈K:=λI=>I.imp (λh=>by omega) λh=>h;have ne:∀ {j},j<i\/j∈K->j≠i:=λI e=>by
  rcases I with I|I
  .omega
  .have:=U _ I;omega
 refine⟨J,tA h.g J λx V e=>h.g.Qp h.tr (h.g.cv _ J x V) e.1,?_,?_,λt=>?_,λj I=>?_⟩
 .rw [qU _ _ (by simp) (by simp) (by simp) (by simp)];exact h.tr
 .rw [qU _ _ (by simp) (by simp) (by simp) (by simp)];exact h.be
 .rw [gF,h.th];constructor
  .rintro ⟨⟨j,I,rfl⟩,O⟩;refine⟨j,?_,rfl⟩;rcases I with I|I
   .exact .inl (by
     have:j≠i:=λe=>O (by rw[e]);omega)
   .exact .inr I
  .rintro ⟨j,I,rfl⟩;exact⟨⟨j,up I,rfl⟩,λe=>ne I (h.inj _ _ (up I) (.inl (by omega)) e)⟩
 .have Q:num j≠num i:=λe=>ne I (h.inj _ _ (up I) (.inl (by omega)) e);rw[qU _ _ (by simp) (by simp) (by simpa using Q) (by simp)];exact h.a j (up I)
end
section
variable{W w w' w0 w2 w3 u:World}{p q:sn}{n m d b nl i:Nat}{id:List (Int × Int)}{hs ks:List Sl}{cs R:lq}{c l:List Int}{H H' H2:Pt->Sl}{s t s' s2:aH}{K:List Nat}{vars:Nat}{mp:List (Int × Int)}{num:Nat->Nat}
def x_(R:lq)(i:Nat)(K:List Nat):lq:=R.take i++K.map λj=>R.getD j []
theorem CY(hi:i<=R.length){x:List Int}:x∈x_ R i K↔∃j,(j<i\/j∈K)/\x=R.getD j []:=by
 unfold x_;rw[y4,LV,Yl];constructor
 .rintro (⟨j,I,rfl⟩| ⟨j,I,rfl⟩)
  .exact ⟨j,.inl (by omega),by simp[List.getD,show j<R.length by omega]⟩
  .exact ⟨j,.inr I,rfl⟩
 .rintro ⟨j,I|I,rfl⟩
  .exact .inl ⟨j,by omega,by simp[List.getD,show j<R.length by omega]⟩
  .exact .inr ⟨j,I,rfl⟩
theorem JX(f:List Int->List Int)(hi:i<=cs.length)(I:∀j∈K,j<cs.length):x_ (cs.map f) i K=(x_ cs i K).map f:=by
 unfold x_;rw[GD,YC,XW];refine congrArg _ (WT λj J=>?_);exact tF (I j J) [] []
theorem Te(J:∀t,s.aN t↔∃j,(j<i\/j∈K)/\num j=t)(ha:∀j,j<i\/j∈K->s.R (.a (num j))=R.getD j [])(hi:i<=R.length)(x:List Int):x∈x_ R i K↔s.BD x:=by
 rw[CY hi];unfold aH.BD;constructor
 .rintro ⟨j,I,rfl⟩;exact⟨num j,(J _).2 ⟨j,I,rfl⟩,ha j I⟩
 .rintro ⟨t,ht,rfl⟩;obtain⟨j,I,rfl⟩:=(J t).1 ht;exact⟨j,I,ha j I⟩
theorem Lf.gone(h:Lf (vars:=vars) s R (i+1) K mp num)(U:∀j∈K,i<j)(k:zF (s.drop (num i)) s')(g:aL s')(Q:s'.R .tr= [])(J:s'.R .be= []):Lf (vars:=vars) s' R i K (ad mp (i:Int)) num:=by
 obtain⟨_,_,_,_,X,Y⟩:=h.drop U;have up:∀ {j},j<i\/j∈K->j<i+1\/j∈K:=λI=>I.imp (λh=>by omega) λh=>h;obtain⟨v1,v2⟩:=l7 (s:=s) (num i);refine⟨g,Q,J,λj=>?_,λt=>k.lN.trans (X t),λj I=> (k.a _).trans (Y j I),λj V I O e=>h.inj j V (up I) (up O) e,?_,(k.v.trans v1).trans h.v⟩
 .rw [T8];by_cases e:j=i
  .subst e;rw[v8 rfl,r8];rintro(h|h)
   .omega
   .have:=U _ h;omega
  .rw [r8 (by omega),h.al];have:(j<i+1\/j∈K)↔(j<i\/j∈K):=by
    constructor
    .rintro (h|h)
     .exact .inl (by omega)
     .exact .inr h
    .exact up
   simp only[this]
 .have:=h.nc;rw[k.n,v2];omega
theorem Lf.oM(h:Lf (vars:=vars) s R (i+1) K mp num)(Z:∀j∈K,i<j)(k:zF (s.drop (num i)) s2)(X:s2.R .tr= [])(U:s2.R .be= [])(g:aL s')(A:lM s2 (R.getD i []) s'):Lf (vars:=vars) s' R i (i::K) (ai mp (i:Int) (s2.nc:Int)) (λj=>if j=i then s2.nc else num j):=by
 obtain⟨_,_,_,_,d5,d6⟩:=h.drop Z;obtain⟨v1,v2⟩:=l7 (s:=s) (num i);have J:∀j,(j<i\/j∈i::K)↔(j=i\/(j<i\/j∈K)):=λj=>by
  rw[V'];constructor
  .rintro (h|h|h)
   .exact .inr (.inl h)
   .exact .inl h
   .exact .inr (.inr h)
  .rintro (h|h|h)
   .exact .inr (.inl h)
   .exact .inl h
   .exact .inr (.inr h)
 have ne:∀ {j},j<i\/j∈K->j≠i:=λI e=>by
  rcases I with I|I
  .omega
  .have:=Z _ I;omega
 have up:∀ {j},j<i\/j∈K->j<i+1\/j∈K:=λI=>I.imp (λh=>by omega) λh=>h;have lt:∀ {j},j<i\/j∈K->num j<s2.nc:=λI=>by
  have:=((d5 _).2 ⟨_,I,rfl⟩).1;rw[k.n];exact this
 refine⟨g,A.tr.trans X,A.be.trans U,λj=>?_,λt=>?_,λj I=>?_,λj V I O e=>?_,?_,((A.v.trans k.v).trans v1).trans h.v⟩
 .rw [Dk];by_cases e:j=i
  .subst e;simp
  .rw [r8 (by omega),h.al,r8 e];have:(j<i+1\/j∈K)↔(j<i\/j∈i::K):=by
    rw[J];constructor
    .rintro (h|h)
     .exact .inr (.inl (by omega))
     .exact .inr (.inr h)
    .rintro (h|h)
     .exact absurd h e
     .exact up h
   simp only[this]
 .have Y:s'.aN t↔s2.aN t\/t=s2.nc:=by
   unfold aH.aN;rw[A.n,A.g];by_cases e:t=s2.nc
   .subst e;simp
   .rw [r8 e];exact⟨λ⟨h1,Q⟩=> .inl ⟨by omega,Q⟩,λh=>h.elim (λ⟨h1,Q⟩=>⟨by omega,Q⟩) λh=>absurd h e⟩
  rw[Y,k.lN,d5];constructor
  .rintro (⟨j,I,rfl⟩|rfl)
   .exact ⟨j,(J j).2 (.inr I),r8 (ne I)⟩
   .exact ⟨i,(J i).2 (.inl rfl),v8 rfl⟩
  .rintro ⟨j,I,e⟩;rcases(J j).1 I with rfl|I
   .rw [v8 rfl]at e;exact .inr e.symm
   .rw [r8 (ne I)]at e;exact .inl ⟨j,I,e⟩
 .rw [A.a];rcases(J j).1 I with rfl|I
  .rw [v8 rfl,v8 rfl]
  .have:=lt I;rw[r8 (ne I),r8 (by omega),k.a];exact d6 j I
 .rcases (J j).1 I with rfl|I
  .rcases (J V).1 O with rfl|O
   .rfl
   .have:=lt O;rw[v8 rfl,r8 (ne O)]at e;omega
  .rcases (J V).1 O with rfl|O
   .have:=lt I;rw[v8 rfl,r8 (ne I)]at e;omega
   .rw [r8 (ne I),r8 (ne O)]at e;exact h.inj j V (up I) (up O) e
 .have:=h.nc;rw[A.n,k.n,v2];omega
theorem zQ{n:Nat}:∀ {K:List Nat} {i:Nat},Li n i K->∀v,K.filter (λj=>decide (j<v+1))=K.filter (λj=>decide (j<v))++ (if v∈K then [v] else [])
 | [],_,_,v=>by simp
 |a::K,i,h,v=>by
  have hp:=XA.1 h.2;have U:Li n i K:=⟨λj I=>h.1 j (xk _ I),hp.2⟩
  have V:=zQ U v;by_cases e:a<v
  .rw [X4 (by simp;omega),X4 (by simp;omega),V,Yg];have:(v∈a::K)↔v∈K:=by rw[V'];exact⟨λh=>h.resolve_left (by omega),.inr⟩
   simp only[this]
  .have X:∀j∈K,¬j<v+1\/a<v:=λj I=> .inl (by have:=hp.1 j I;omega);have Q:K.filter (λj=>decide (j<v+1))= []:=Yx.2 λj I=>by have:=hp.1 j I;simp;omega
   have O:K.filter (λj=>decide (j<v))= []:=Yx.2 λj I=>by have:=hp.1 j I;simp;omega
   have J:v ∉ K:=λhv=>by have:=hp.1 v hv;omega
   by_cases Y:a=v
   .subst Y;rw[X4 (by simp),X5 (by simp),Q,O,v8 (Wb ..)];rfl
   .rw [X5 (by simp;omega),X5 (by simp;omega),Q,O,r8]
    .rfl
    .rw [V'];rintro(h|h)
     .omega
     .exact J h
end
section
variable{W w w' w0 w2 w3 u:World}{p q:sn}{n m d b nl i:Nat}{id:List (Int × Int)}{hs ks:List Sl}{cs R:lq}{c l:List Int}{H H' H2:Pt->Sl}{s t s' s2:aH}{K:List Nat}{vars:Nat}{mp:List (Int × Int)}{num:Nat->Nat}
theorem Ex{n:Nat}:∀ {K:List Nat} {i:Nat},Li n i K->i<=n->K.length+i<=n
 | [],_,_,h=>by simpa using h
 |a::K,i,h,hi=>by
  have hp:=XA.1 h.2;have ha:=h.1 a (Wb ..);have:=Ex (K:=K) (i:=a+1) ⟨λj I=>⟨hp.1 j I,(h.1 j (xk _ I)).2⟩,hp.2⟩ (by omega);rw[Wz];omega
theorem AS(h:nh c=true):∀i,CE cs c i []= []
 |0=>rfl
 |i+1=>by rw[Ae (.inl h)];exact AS h i
theorem Qn{α:Type}{f:α->Value}{b:Nat}{a:Array Value}{l:List α}(h:bO w b a)(I:a.toList=l.map f):Vw f w (some ⟨b,0,none⟩) l:=by
 intro j J;refine⟨_,rfl,ae h ?_⟩;rw[Wr,<- YE,I,WW,V9 J];rfl
theorem we{b:Nat}{sl:Sl}(h:bO w b #[.slice sl.p sl.n sl.c]):Vw Sl.v w (some ⟨b,0,none⟩) [sl]:=λj I=>by
 have:j=0:=by simpa using I
 subst this;exact⟨_,rfl,ae h rfl⟩
theorem V2.UH{α:Type}{f:α->Value}{rows:List (List α)}(h:V2 f w p hs rows)(k:Nat):V2 f w p (hs.take k) (rows.take k):=by
 have e:∀ {β:Type} (l:List β) (d:β) (j:Nat),j<k->(l.take k).getD j d=l.getD j d:=λl d j I=>by
  simp only[vx,WE];rw[v8 I]
 refine⟨λj I=>?_,by simp[h.n],λj I=>?_⟩
 .rw [y6]at I;obtain⟨a,h1,J⟩:=h.h j (by omega);exact⟨a,h1,by rw[XP];exact J⟩
 .rw [y6]at I;rw[e _ _ _ (by omega),e _ _ _ (by omega)];exact h.r j (by omega)
structure LI(w30 u:World)(b nl:Nat)(H:Pt->Sl)(vars:Nat)(R cs:lq)(c:List Int)(i:Nat)(K:List Nat)(H':Pt->Sl)(s:aH)(mp:List (Int × Int))(num:Nat->Nat):Prop where
 pm:PM u b H' s
 lf:Lf (vars:=vars) s R i K mp num
 mv:MV sT u nl mp
 md:aE (λk=>k=nl\/∃x,own b H x=some k) w30 u
 ow:∀x k,own b H' x=some k->(∃y,own b H y=some k)\/w30.heap.size<=k
 rs:Li cs.length i K
 nd:CE cs c cs.length []=CE cs c i K
theorem MH{e:Nat}(hv:V2 sT w p hs cs)(hn:n=cs.length)(hl:∀c∈cs,c.length<=4096/\∀x∈c,cC x=true)(hc:Vw sT w q c)(hm:m=c.length)(fa:jL c=true)(hx:cs.length<=99000)(fj:wK cs+c.length<=1000000):
 Calls prog 76 #[.slice p n d,.slice q m e] w λe w'=> (¬uB cs c/\e=.returned (.tuple #[.slice none 0 0,.bool false])/\ak w w')\/(uB cs c/\∃ (q':sn) (d':Nat),e=.returned (.tuple #[.slice q' (CE cs c cs.length []).length d',.bool true])/\d_ aB w' q' d' ((CE cs c cs.length []).map λj:Nat=> (j:Int))/\ak w w'):=by
 subst hn hm;have d8:=cX fa;have eA:∀x∈cs++ [c],∀y∈x,cC y=true:=λx hx=>by
  rcases y4.1 hx with h|h
  .exact (hl x h).2
  .rw [xv]at h;subst h;exact d8.1
 refine oH.aj (Calls.mono (R:=λe w'=>e=.returned (.bool (nh c))/\ak w w') (xl.aj ((wk hc rfl (by unfold maxLen;omega)).mono ?_)) ?_)
 .rintro e w1 ⟨qn,dn,mn,_,rfl,_,g1⟩;rw[fa,W2];exact⟨_,_,_,_,rfl,rfl,g1⟩
 rintro e w1⟨rfl,g1⟩;refine⟨_,rfl,ah (λht=> .inr ⟨.inl ht,none,0,by rw[AS ht];rfl,by rw[AS ht];exact Ow.nil _ _ _,g1⟩) (λht=>?_)⟩;refine(JP (hv.h.grow g1) (by rw[hv.n]) (by omega)).mono ?_;rintro e w3⟨qh,dh,rfl,oh,g3,fh⟩;have G3:=g1.trans g3;have z1:=g1.size;refine⟨_,_,_,rfl,?_⟩;intro n5 w6 h6;have hlen:=hv.n;refine Ow.uv iP (oh.grow h6.mod) (we (sl:=⟨q,c.length,e⟩) h6.has) rfl rfl (λ_=>rfl) (by simp;omega) λw7 p7 c7 o7 m7 it j4=>?_;have e5:=h6.num;have z3:=g3.size;have s6:=h6.size;have G6:=G3.trans h6.mod;have G7:ak w w7:=G6.then m7 λk J e=>by have:=fh k e;omega
 have V7:V2 sT w7 p7 (hs++ [⟨q,c.length,e⟩]) (cs++ [c]):=((hv.vr.nu (VR.bP (s:=⟨q,c.length,e⟩) hc rfl (by show c.length<=maxLen;unfold maxLen;omega))).grow G7).v2 o7.vw;have el:(hs++ [(⟨q,c.length,e⟩:Sl)]).length=(cs++ [c]).length:=by simp[hlen]
 rw[el];refine(Nc V7 rfl eA (by simp;omega) (by rw[wD];exact fj)).mono ?_;rintro e9 w9⟨id,Y,c2,ks,rfl,rQ,hN,ag,g9,f9,dB⟩;have aw:∀x∈c,Nt id x:=hN c (by simp);have ar:∀x∈cs,∀y∈x,Nt id y:=λx hx=>hN x (Wq _ hx);have G9:=G7.trans g9;have z7:=G7.size;have av:((cs++ [c]).map (List.map (dx id))).length=cs.length+1:=by simp
 rw[wD]at dB;have hR:(cs++ [c]).map (List.map (dx id))=cs.map (List.map (dx id))++ [c.map (dx id)]:=by simp
 have eT:pL id c<=1048576:=by
  have:=rQ.nd;unfold pL;split<;>omega
 refine⟨_,_,_,_,rfl,?_⟩;have hJ:cs.length+1<=c2:=by
  have:=ag.n;rw[av]at this;rcases ag.h.un with⟨_,_,e⟩| ⟨_,_,_,_,h,_⟩
  .rw [e]at this;simp at this
  .omega
 try dsimp only
 rw[wN (x:=((cs++ [c]).length:Int) - 1) (i:=cs.length) (by simp) (by omega)];refine⟨λv u=>v=(pL id c:Int)/\ak w7 u/\∃kF,V2 sT u Y kF (cs.map (List.map (dx id))++ [oG id c]),?_,?_⟩
 .have z9:=g9.size;have ek:=ag.n;rw[av]at ek;refine ah (λr=>?_) (λr=>?_)
  .have r:c= []:=by
    have:(c.length:Int)=0:=by simpa using r
    exact Wa (by omega)
   subst r;intro cr kk az;have ip:=az.num;have e0:i64.wrap ((id.length:Int)+1)=((id.length+1:Nat):Int):=wN (by omega) (by simp at dB;omega);rw[e0]at az ⊢;refine(ag.h.grow az.mod).st (⟨some ⟨cr,0,none⟩,1,1⟩:Sl) rfl rfl (by omega) (by simp;omega) (by simp;omega) λh_ fl cm=>?_;rw[tn]at fl;have b9:∀k,aF Y=some k->w7.heap.size<=k/\k<w9.heap.size:=λk J=>⟨f9 k (.inl J),ag.h.lt k J⟩
   have du:aF Y≠some cr:=λe=>by have:=b9 _ e;omega
   refine⟨rfl,(g9.trans az.mod).then cm λk J e=>?_,ks.set cs.length ⟨some ⟨cr,0,none⟩,1,1⟩,fl.vw,by simp[ek],λj V=>?_⟩
   .have:=b9 k e;omega
   .have V:j<cs.length+1:=by simpa using V
    rw[vD (by omega)];by_cases e:j=cs.length
    .subst e;rw[v8 rfl];have eg:(cs.map (List.map (dx id))++ [oG id []]).getD cs.length []= [((id.length+1:Nat):Int)]:=by
      simp[List.getD,oG]
     rw[eg];exact⟨rfl,by show 1<=maxLen;decide,(Qn az.has rfl).keep cm λk J e=>du (by have:=aO J;rw[<- this];exact e)⟩
    .rw [r8 e];have hV:j<cs.length:=by omega
     obtain⟨r1,r2⟩:=ag.r j (by rw[av];omega);have eg:(cs.map (List.map (dx id))++ [oG id []]).getD j []=((cs++ [[]]).map (List.map (dx id))).getD j []:=by
      rw[hR];simp only[vx];rw[Wd (by simp;omega),Wd (by simp;omega)]
     rw[eg];exact⟨r1,by rw[r1];exact r2.cap,(r2.vw.grow az.mod).keep cm λk J e=>ag.d0 j k (by rw[av];omega) J e⟩
  .have r:c≠[]:=λe=>by subst e;simp at r
   refine⟨by unfold pL;rw[r8 r],g9,ks,?_⟩;have:oG id c=c.map (dx id):=by unfold oG;rw[r8 r]
   rw[this,<- hR];exact ag.v2
 .rintro _ bg _ ⟨rfl,fP,kF,bk⟩;have es:=bk.Rt;have lR:(cs.map (List.map (dx id))).length=cs.length:=by simp
  have c3:(cs.map (List.map (dx id))++ [oG id c]).take cs.length=cs.map (List.map (dx id)):=by rw[Wg (by simp),Wi (by simp)]
  have e4:c5 (pL id c:Int) (cs.map (List.map (dx id)))=true:=by
   unfold c5;rw[ts,x7,K'];refine⟨⟨by omega,by omega,by simp;omega⟩,λx hx=>?_⟩;obtain⟨x',aT,rfl⟩:=LV.1 hx;have fk:∀y∈x',dZ (pL id c) (dx id y):=λy hy=>FF (rQ.tI (ar x' aT y hy)) (by unfold pL;split<;>omega);have a':=DS fk eT (hl x' aT).1;unfold yB at a';rw[ts]at a' ⊢;refine⟨a'.1,?_⟩;rw[K'];intro y hy;obtain⟨y',f',rfl⟩:=LV.1 hy;have:=fk y' f';unfold dZ at this;rw[x7];unfold bo;split<;>omega
  refine gh 0 cs.length c2 rfl rfl rfl (by omega) (by omega) (by omega) ?_;have ei:(if c2=0 then Y else Y.map (·.add (0*1)))=Y:=by split;rfl;exact TT Y
  rw[ei,WO,WO];refine(zX (k:=(pL id c:Int)) (V2.UH bk cs.length) (by rw[c3,lR])).mono ?_;rintro i_ fi (⟨hf,_⟩| ⟨_,b,s,H,rfl,pm,g,N,c1,fo⟩)
  .rw [c3,e4]at hf;cases hf
  rw[c3]at N;have ec:=G7.trans fP;have dp:=ec.trans c1;have en:=bk.grow c1;refine⟨_,_,rfl,en.ix (by omega) (by simp) (by simp;omega) λa sl k1 k0 k2 k3 k4=>⟨_,_,_,k1,?_⟩⟩;rw[tn]at k2 k4 k0;have eg:(cs.map (List.map (dx id))++ [oG id c]).getD cs.length []=oG id c:=by simp[List.getD]
  rw[eg]at k2 k4;intro n25 gf ac;have jp:=ac.num;have eN:s.vars=pL id c:=by have:=N.v;simpa using this
  have et:s.nc=cs.length:=by have:=N.n;simpa using this
  have a6:∀t,s.aN t↔t<cs.length:=λt=>by
   unfold aH.aN;rw[et];exact⟨λh=>h.1,λh=>⟨h,N.g t (by simpa using h)⟩⟩
  have cb:∀x,x∈cs.map (List.map (dx id))↔s.BD x:=λx=>by
   unfold aH.BD;constructor
   .intro hx;obtain⟨j,V,rfl⟩:=Bs.1 hx;have ax:j<cs.length:=by simpa using V
    exact⟨j,(a6 j).2 ax,by rw[N.a j (by simpa using ax)];simp[List.getD,ax]⟩
   .rintro ⟨j,V,rfl⟩;have ax:=(a6 j).1 V;rw[N.a j (by simpa using ax)];exact iO (by simpa using ax)
  have j1:fi.heap.size<gf.heap.size:=by have:=ac.size;omega
  have X:∀x k,own b H x=some k->bg.heap.size<=k/\k<fi.heap.size:=λx k e=>⟨fo x k e,pm.lt x k e⟩
  have b4:∀k,aF sl.p=some k->k<bg.heap.size:=λk J=>by
   obtain⟨_,_,r3⟩:=bk.r cs.length (by simp);rw[eg,<- k0]at r3;exact r3.lt Je k J
  have a_:=Je (id:=id) (c:=c);have bb:(oG id c).length<=100000:=by
   unfold oG;split
   .simp
   .rw [We];omega
  refine(Rs (pm.grow ac.mod) g N.be N.tr ac.has (λx e=>by have:=X x _ e;omega) (k4.grow ac.mod) (λk J x e=>by have:=b4 k J;have:=X x k e;omega) k2 a_ (by rw[k2];exact bb) (λx hx=>by rw[eN];exact JJ rQ aw x hx) (Cq rQ aw (by simpa using ht)) cb).mono ?_;rintro j3 e3⟨r,rfl,hr,H1,s1,P1,gs,bn,gP,gT⟩;have e1:r=true↔uB cs c:=hr.trans (IH rQ ar aw);have ir:=dp.size;have hW:=ec.size;have fL:=dp.trans ac.mod;have eL:ak w e3:=fL.then P1.mod λk J ⟨x,e⟩=>by have:=X x k e;omega
  refine⟨_,rfl,ah (λr1=> .inl ⟨λe=> (by rw[e1.2 e]at r1;cases r1),rfl,eL⟩) (λr1=>?_)⟩;have hu:uB cs c:=e1.1 (by simpa using r1);intro n29 O Z;have kh:=Z.num;have g0:=c1.size;have U:∀x k,own b H1 x=some k->bg.heap.size<=k/\k<e3.heap.size/\k≠n25:=λx k e=>by
   have j2:=P1.pm.lt x k e;rcases P1.ft x k e with⟨y,e⟩|e
   .have:=X y k e;have:=P1.mod.size;omega
   .omega
  have ii:=P1.mod.size;have gu:∀ {u:World} {Hc:Pt->Sl} {sc:aH},(∀x k,own b Hc x=some k->(∃y,own b H1 y=some k)\/O.heap.size<=k)->∀x,own b Hc x≠some n29:=λow x e=>by
   have:=Z.size;rcases ow x _ e with⟨y,e⟩|e
   .have:=U y _ e;omega
   .omega
  refine⟨λI u z=>∃ (v:Nat) (mp:List (Int × Int)),I=v/\v<=cs.length/\z=cs.length - v/\aE (·=n29) O u/\MV sT u n29 mp/\∀j:Nat,al mp (j:Int)=if j<v then some (j:Int) else none,⟨_,0,[],rfl,xc _,rfl,aE.refl _,MV.new Z,λj=>by rw[r8 (by omega)];rfl⟩,?_⟩;rintro I u z _⟨v,mp,rfl,gn,rfl,Mu,mu,ce⟩;refine ah (λr2=>?_) (λr2=>?_)
  .have r2:v<cs.length:=by simpa using r2
   obtain⟨gd,eR,dq,er,_⟩:=mu.put lg (v:Int) (v:Int);refine⟨gd,eR,_,?_,v+1,_,wN,r2,rfl,Mu.trans er,dq,λj=>?_⟩
   .omega
   .rw [Dk];by_cases e:j=v
    .subst e;rw[v8 rfl,v8 (by omega)]
    .rw [r8 (by omega),ce];by_cases e2:j<v
     .rw [v8 e2,v8 (by omega)]
     .rw [r8 e2,r8 (by omega)]
  have r2:v=cs.length:=by simp at r2;omega
  subst r2;have dA:LI O u b n29 H1 (pL id c) (cs.map (List.map (dx id))) cs c cs.length [] H1 s1 mp λj=>j:=by
   refine⟨(P1.pm.grow Z.mod).keep Mu λx k J e=>by have:=U x k J;omega,⟨gs,gT,gP,λj=>by rw[ce];simp,λt=>?_,λj V=>?_,λj j' _ _ e=>e,?_,(bn.v).trans eN⟩,mu,Mu.mono λk _ e=> .inl e,λx k J=> .inl ⟨x,J⟩,⟨λj V=>by simp at V,List.Pairwise.nil⟩,rfl⟩
   .rw [bn.lN,a6];constructor
    .intro h;exact⟨t,.inl h,rfl⟩
    .rintro ⟨j,V,rfl⟩;simpa using V
   .have V:j<cs.length:=by simpa using V
    rw[bn.a,N.a j (by simpa using V)]
   .rw [bn.n,et,lR];omega
  refine⟨λp left I u z=>∃ (i:Nat) (K:List Nat) (Hc:Pt->Sl) (sc:aH) (mp:List (Int × Int)) (num:Nat->Nat),p=some ⟨b,0,none⟩/\left=some n29/\I=(i:Int) - 1/\i=z/\i<=cs.length/\LI O u b n29 H1 (pL id c) (cs.map (List.map (dx id))) cs c i K Hc sc mp num,
   ⟨_,cs.length,[],H1,s1,mp,_,rfl,rfl,by rw[ao (by omega) (by omega)],rfl,vy _,dA⟩,?_⟩
  clear dA mu ce Mu;rintro _ _ I u z _⟨i,K,Hc,sc,mp,num,rfl,rfl,rfl,rfl,hK,L⟩;have gr:ak w O:=eL.trans Z.mod;have i3:=Z.mod.size;have Gu:∀ {y:World},aE (λk=>k=n29\/∃x,own b H1 x=some k) O y->ak w y:=λm=>gr.then m λk J e=>by
   rcases e with e| ⟨x,e⟩
   .omega
   .have:=U x k e;omega
  have gk:V2 sT O Y kF (cs.map (List.map (dx id))++ [oG id c]):=((en.grow ac.mod).mK P1.mod λk J ⟨x,e⟩=>by have:=es k J;have:=X x k e;omega).grow Z.mod;have Vu:∀ {y:World},aE (λk=>k=n29\/∃x,own b H1 x=some k) O y->V2 sT y Y kF (cs.map (List.map (dx id))++ [oG id c]):=λm=>gk.mK m λk J e=>by
   have:=es k J;rcases e with e| ⟨x,e⟩
   .omega
   .have:=U x k e;omega
  have Q:∀ {Hc:Pt->Sl} {k:Nat},(∀x k,own b Hc x=some k->(∃y,own b H1 y=some k)\/O.heap.size<=k)->∀x,own b Hc x=some k->bg.heap.size<=k/\k≠n25/\k≠n29:=λ{Hc k} ow x e=>by
   rcases ow x k e with⟨y,e⟩|e
   .have:=U y k e;omega
   .have:=Z.size;omega
  refine ah (λr3=>?_) (λr3=>?_)
  .obtain ⟨i,rfl⟩: ∃i',i=i'+1:=⟨i - 1,by simp at r3;omega⟩
   have hI:(((i+1:Nat):Int) - 1)=(i:Int):=by omega
   rw[hI];have ap:=L.mv.cY lg (i:Int) (rV u);rw[L.lf.al,v8 (.inl (by omega))]at ap;have b': ∀j∈K,i<j:=λj V=>by have:=(L.rs.1 j V).1;omega
   obtain⟨d1,d2,d3,d4,d5,d6⟩:=L.lf.drop b';have g4:sc.is ((num i:Nat):Int)=true:=by
    unfold aH.is;rw[tn,d1.2];have:=d1.1;simp only[ZD,XI,x7];omega
   refine⟨u,((num i:Nat):Int),ap,(DP L.pm L.lf.g ((num i:Nat):Int)).mono ?_⟩;rintro i7 d7⟨iy,rfl,Hd,hd⟩;have Pd:Pw u d7 b Hc Hd (sc.drop (num i)):=by
    rcases hd with⟨_,hf,_⟩| ⟨_,_,⟨x,hx,h1,h2⟩,_⟩| ⟨_,_,_,hP⟩
    .rw [g4]at hf;cases hf
    .rw [tn]at hx;exact absurd h1 (L.lf.g.Qp L.lf.tr (L.lf.g.cv _ d1 x hx))
    .rw [tn]at hP;exact hP
   have zu:=L.md.size;have b3:∀x k,own b Hd x=some k->(∃y,own b H1 y=some k)\/O.heap.size<=k:=λx k e=>by
    rcases Pd.ft x k e with⟨y,e⟩|e
    .exact L.ow y k e
    .exact .inr (by omega)
   have bu:aE (λk=>k=n29\/∃x,own b H1 x=some k) O d7:=L.md.then Pd.mod λk J ⟨x,e⟩=>by
    rcases L.ow x k e with h|h
    .exact .inr h
    .omega
   have gw:bO O n25 _:=(ac.has.keep P1.mod λ⟨x,e⟩=>by have:=X x _ e;omega).grow Z.mod;have tk:∀ {y:World},aE (λk=>k=n29\/∃x,own b H1 x=some k) O y->bO y n25 #[cj b,.slice sl.p sl.n sl.c]:=λm=>gw.keep m λe=>by
    rcases e with e| ⟨x,e⟩
    .omega
    .exact (U x _ e).2.2 rfl
   have cv:∀ {y:World},aE (λk=>k=n29\/∃x,own b H1 x=some k) O y->Vw sT y sl.p (oG id c):=λm=>by
    obtain⟨_,_,r3⟩:=(Vu m).r cs.length (by simp);rw[eg,<- k0]at r3;exact r3
   have c0:=Te (R:=cs.map (List.map (dx id))) (i:=i) (K:=K) d5 d6 (by rw[lR];omega);refine⟨_,rfl,(Rs Pd.pm (tA L.lf.g d1 λx hx e=>L.lf.g.Qp L.lf.tr (L.lf.g.cv _ d1 x hx) e.1) d4 d3 (tk bu) (λx e=> (Q b3 x e).2.1 rfl) (cv bu) (λk J x e=>by have:=b4 k J;have:=Q b3 x e;omega) k2 a_ (by rw[k2];exact bb) (λx hx=>by rw[(l7 _).1,L.lf.v];exact JJ rQ aw x hx) (Cq rQ aw (by simpa using ht)) c0).mono ?_⟩;rintro io e6⟨gv,rfl,eb,He,se,Pe,ge,ke,eu,e'⟩;have fb:∀j∈K,j<cs.length:=λj V=> (L.rs.1 j V).2;have a8:gv=true↔uB (x_ cs i K) c:=by
    rw[eb,JX _ (by omega) fb];refine IH rQ (λx hx y hy=>?_) aw;obtain⟨j,V,rfl⟩:=(CY (by omega)).1 hx;have gx:j<cs.length:=by
     rcases V with V|V
     .omega
     .exact fb j V
    exact ar _ (iO gx) y hy
   have PE:=Pd.trans Pe;have bY:∀x k,own b He x=some k->(∃y,own b H1 y=some k)\/O.heap.size<=k:=λx k e=>by
    rcases PE.ft x k e with⟨y,e⟩|e
    .exact L.ow y k e
    .exact .inr (by omega)
   have b7:aE (λk=>k=n29\/∃x,own b H1 x=some k) O e6:=L.md.then PE.mod λk J ⟨x,e⟩=>by
    rcases L.ow x k e with h|h
    .exact .inr h
    .omega
   have ez:MV sT e6 n29 mp:=L.mv.keep PE.mod λ⟨x,e⟩=> (Q L.ow x e).2.2 rfl;have ew:i64.wrap ((i:Int) - 1)=(i:Int) - 1:=by rw[ao (by omega) (by omega)]
   refine⟨_,rfl,ah (λr4=>?_) (λr4=>?_)⟩
   .obtain ⟨gA,eF,ep,b5,_⟩:=ez.del lg (i:Int) 0;refine⟨gA,eF,i,by omega,i,K,He,se,_,num,rfl,rfl,ew,rfl,by omega,PE.pm.keep b5 λx k J e=>?_,L.lf.gone b' ke ge e' eu,ep,b7.then b5 λk _ e=> .inl e,bY,L.rs.Na,?_⟩
    .exact (Q bY x J).2.2 e
    .rw [L.nd];exact Ae (a8.1 r4)
   .have gp: ¬uB (x_ cs i K) c:=λe=>by rw[a8.2 e]at r4;cases r4
    refine(Vu b7).ix (by omega) (by simp) (by simp;omega) λa2 sl2 q1 q0 q2 q3 q4=>⟨_,_,_,q1,?_⟩
    rw[tn]at q2 q4;have gS:(cs.map (List.map (dx id))++ [oG id c]).getD i []=(cs.map (List.map (dx id))).getD i []:=by
     simp only[vx];rw[Wd (by simp;omega)]
    rw[gS]at q2 q4;have cg:=iO (l:=cs.map (List.map (dx id))) (i:=i) (by rw[lR];omega);refine(mf PE.pm ge q4 q2 q3).mono ?_;rintro i0 ea⟨gW,gb,rfl,sa,Ha,Pa,ga,g2⟩;have a':yB se.vars ((cs.map (List.map (dx id))).getD i [])=true:=by
     rw[ke.v,(l7 _).1,L.lf.v];obtain⟨x',aT,e⟩:=LV.1 cg;rw[<- e];exact DS (λy hy=>FF (rQ.tI (ar x' aT y hy)) (by unfold pL;split<;>omega)) eT (hl x' aT).1
    have hh:se.nc<262144:=by
     have:=L.lf.nc;rw[lR]at this;rw[ke.n,(l7 _).2];omega
    obtain⟨rfl,rfl,A⟩:gW=se.nc/\gb=0/\lM se ((cs.map (List.map (dx id))).getD i []) sa:=by
     rcases g2 with⟨_,_,hb,_⟩| ⟨_,_,_,hb,_⟩| ⟨a,a2,_,_,a3⟩
     .rw [a']at hb;cases hb
     .omega
     .exact ⟨a,a2,a3⟩
    have PA:=PE.trans Pa;have b6:∀x k,own b Ha x=some k->(∃y,own b H1 y=some k)\/O.heap.size<=k:=λx k e=>by
     rcases PA.ft x k e with⟨y,e⟩|e
     .exact L.ow y k e
     .exact .inr (by omega)
    have fd:aE (λk=>k=n29\/∃x,own b H1 x=some k) O ea:=L.md.then PA.mod λk J ⟨x,e⟩=>by
     rcases L.ow x k e with h|h
     .exact .inr h
     .omega
    have eH:MV sT ea n29 mp:=L.mv.keep PA.mod λ⟨x,e⟩=> (Q L.ow x e).2.2 rfl;obtain⟨g6,ey,eK,bx,_⟩:=eH.put lg (i:Int) (se.nc:Int);refine⟨_,_,rfl,g6,ey,bq rfl ⟨i,by omega,i,i::K,Ha,sa,_,_,rfl,rfl,ew,rfl,by omega,PA.pm.keep bx λx k J e=>?_,L.lf.oM b' ke e' eu ga A,eK,fd.then bx λk _ e=> .inl e,b6,L.rs.cons (by omega),?_⟩⟩
    .exact (Q b6 x J).2.2 e
    .rw [L.nd];exact tw gp
  .have:i=0:=by simp at r3;omega
   subst this;have g5:CE cs c cs.length []=K:=by rw[L.nd];rfl
   rw[g5];have zu:=L.md.size;have d9:∀j:Nat,al mp (j:Int)=if j∈K then some ((num j:Nat):Int) else none:=λj=>by
    rw[L.lf.al];simp
   have f0:(K.filter λj=>decide (j<0))= []:=Yx.2 λj _=>by simp
   refine⟨λP N C I y z=>∃v:Nat,I=v/\v<=cs.length/\z=cs.length - v/\N=(K.filter λj=>decide (j<v)).length/\ak u y/\d_ aB y P C ((K.filter λj=>decide (j<v)).map λj:Nat=> (j:Int))/\∀k,aF P=some k->u.heap.size<=k,
    ⟨_,0,rfl,xc _,rfl,by rw[f0];rfl,aE.refl _,by rw[f0];exact Ow.nil _ _ _,λk J=>by simp[aF]at J⟩,?_⟩
   rintro P N C I y z _⟨v,rfl,gn,rfl,rfl,gy,o,f⟩;have gJ:(K.filter λj=>decide (j<v)).length<=K.length:=WZ _ _;have i4:K.length<=cs.length:=by
    have:=Ex L.rs (xc _);omega
   refine ah (λr4=>?_) (λr4=>?_)
   .have r4:v<cs.length:=by simpa using r4
    have ap:=(L.mv.grow gy).Sv lg (v:Int) (rV y);rw[d9]at ap;have hf:=zQ L.rs v;by_cases hv:v∈K
    .rw [v8 hv]at ap hf;refine⟨y,_,true,ap,bJ rfl ?_⟩;intro hY h8 a7;have hT:=a7.num;have zy:=gy.size;refine Ow.jS cR (o.grow a7.mod) ((v:Nat):Int) a7.has rfl (by simp) eI (by simp;omega) λkl p' c' ed gl gg hS=>?_;have e8:(K.filter λj=>decide (j<v+1)).map (λj:Nat=> (j:Int))=(K.filter λj=>decide (j<v)).map (λj:Nat=> (j:Int))++ [(v:Int)]:=by rw[hf,GD];rfl
     rw[<- e8]at ed;refine⟨_,by omega,v+1,wN,r4,rfl,by rw[hf];simp,(gy.trans a7.mod).then gl λk J e=>by have:=f k e;omega,ed,λk J=>?_⟩;have:=a7.size;rcases gg with rfl|rfl
     .exact f k J
     .have:=aO J;omega
    .rw [r8 hv]at ap hf;rw[W9]at hf;exact⟨y,_,false,ap,bq rfl ⟨_,by omega,v+1,wN,r4,rfl,by rw[hf],gy,by rw[hf];exact o,f⟩⟩
   .have r4:v=cs.length:=by simp at r4;omega
    subst r4;have ef:(K.filter λj=>decide (j<cs.length))=K:=Yq.2 λj V=>by simpa using(L.rs.1 j V).2
    rw[ef]at o ⊢;exact .inr ⟨hu,P,C,rfl,o,(Gu L.md).trans gy⟩
end
end Go.Proofs.YtbdghpjnifjlmaaGreat.W
namespace Go.Fw
open Go Go.RowKit
variable{P:Program}{α:Type}{sz:Nat}{f:α->List Value}{T:TypeId}{w w':World}{p q:sn}{c:Nat}{l:List α}
theorem CZ(hf:∀x,(f x).length=sz){k:Nat}(I:k<=l.length):(l.flatMap f).take (k*sz)=(l.take k).flatMap f:=by
 conv=>lhs;rw[<- WN k l]
 rw[X_,Wg (by rw[jZ hf,y6,WK I];exact vy _),Wi (by rw[jZ hf,y6,WK I];exact vy _)]
theorem K7(hf:∀x,(f x).length=sz){k:Nat}(I:k<=l.length):(l.flatMap f).drop (k*sz)=(l.drop k).flatMap f:=by
 conv=>lhs;rw[<- WN k l]
 rw[X_,Yv (by rw[jZ hf,y6,WK I];exact vy _),Yy (by rw[jZ hf,y6,WK I];exact vy _),WY]
theorem Row.cap(h:Row sz f T w p c l):l.length<=c:=by
 rcases h.un with⟨_,_,rfl⟩| ⟨_,_,_,_,I,_⟩
 .simp
 .exact I
theorem Vr.part(h:Vr sz f w p l){i m:Nat}(h1:i+m<=l.length):Vr sz f w (p.map (·.add (i*sz))) ((l.drop i).take m):=by
 intro j I;rw[y6,WD]at I;obtain⟨a,rfl,J⟩:=h (i+j) (by omega);refine⟨_,rfl,?_⟩;rw[XP,Y0,vI,<- XG];exact J
theorem Row.DT{t ty e bytes:Nat}(E:Jk sz f)(hs:rM P t e sz bytes=true)(h:Row sz f e w p c l){k m d:Nat}{news:List α}(h2:Vr sz f w q news)(hm:m=news.length)(I:k+m<=l.length){K:World->Prop}
 (V:∀w',Row sz f e w' p c (l.take k++news++l.drop (k+m))->aE (λb=>aF p=some b) w w'->K w'):
 ∃w',(Builtin.append_ #[t,t] ty #[.slice p k c,.slice q m d]).run P w=.ok (.slice p (k+m) c) w'/\K w':=by
 obtain⟨ht,i,z,hi,hz,h1,ax,h3⟩:=uy hs;subst hm;rcases Wt news.length with X|X
 .have hn:news= []:=Wa X;subst hn;refine⟨w,?_,V w (by simpa using h) (aE.refl w)⟩;rcases h.un with⟨rfl,rfl,rfl⟩| ⟨g,cur,rfl,hg,g1,g2,Y,g4⟩<;>cases q<;>
   simp[Builtin.append_,run_underlying ht,sizeOf,typeInfo,Builtin.lenOf,Builtin.firstCells,loadCells,loadCellsFrom,storeCells, *]<;>simp at I<;>omega
 .obtain ⟨a,rfl,_⟩:=h2 0 X;rcases h.un with⟨rfl,rfl,rfl⟩| ⟨g,cur,rfl,hg,g1,g2,Y,g4⟩
  .rw [Xi]at I;omega
  .have J:=jZ E.len news;have O:∀u∈news.flatMap f,u.oneCell'=true:=λu hu=>by obtain⟨x,_,hx⟩:=Yu.1 hu;exact E.bP x u hx
   have Q:k*sz+news.length*sz=(k+news.length)*sz:=(XG _ _ _).symm;have aa:k*sz+news.length*sz<=cur.size:=by rw[Q,Y];exact WQ _ (by omega)
   have hr:=run_append_room (P:=P) w t ty e i ht hi g k c cur hg a news.length d (news.flatMap f) (by rw[J,h1]) (h2.RY E) O (by omega) (by rw[h1,J];exact aa);rw[h1,J]at hr;have U:cur.toList.length=c*sz:=by simpa using Y
   have ag:l.length*sz<=c*sz:=WQ _ g1;have az:(k+news.length)*sz<=l.length*sz:=WQ _ I;have Z:k*sz<=l.length*sz:=WQ _ (by omega);refine⟨_,hr,V _ (Row.da E.len (setRow_heap w g cur _ e _ hg) (by simp;omega) g2 ?_ ?_) ⟨rfl,rfl,rfl,by simp,λk _ V=>setRow_other w g k _ λhe=>V (by simp[aF,he])⟩⟩
   .simp only[XK,I',y6,WD,J,U];omega
   .have hl:(l.take k++news++l.drop (k+news.length)).length=l.length:=by simp;omega
    rw[hl,X_,X_,<- CZ E.len (by omega),<- K7 E.len I,<- g4];rw[X0,WK Z,<- Q];simp only[WH];rw[Zv,Zv];have e1:(cur.toList.take (k*sz)).length=k*sz:=by rw[y6,U];omega
    rw[e1,J];rw[Wi (l:=cur.toList.take (k*sz)) (by rw[e1];omega),Wi (l:=news.flatMap f) (by rw[J];omega)];congr 2;rw[List.drop_take];congr 1;omega
theorem Row.clear{t ty e bytes:Nat}(E:Jk sz f)(hs:rM P t e sz bytes=true){x:α}{v:Value}(Z:(P.info? e).bind (·.zero)=some v)(hv:v.cells.toList=f x)(h:Row sz f e w p c l){k d:Nat}(hk:k+1=l.length){K:World->Prop}
 (hK:∀w',Row sz f e w' p c (l.take k)->aE (λb=>aF p=some b) w w'->K w'):
 ∃w',(Builtin.clear_ #[t] ty #[.slice (p.map (·.add (k*sz))) 1 d]).run P w=.ok (.tuple #[]) w'/\K w':=by
 obtain⟨ht,i,z,hi,I,h1,hb,h3⟩:=uy hs;have O:z=v:=by simp only[hi,XD]at Z;rw[I]at Z;exact WS Z
 subst O;rcases h.un with⟨rfl,rfl,rfl⟩| ⟨g,cur,rfl,hg,g1,g2,g3,g4⟩
 .simp at hk
 .have V:(Builtin.zeroCells z.cells 1).toList=f x:=by
   have ar:z.cells.size=sz:=h3;rw[<- hv];simp[Builtin.zeroCells];apply XC
   .simp
   .intro i h1 h2;simp only[XH,Zp];have:i<z.cells.size:=by simpa using h2
    simp[Nat.mod_eq_of_lt this,this]
  have an:k*sz+sz<=c*sz:=by
   have:(k+1)*sz<=c*sz:=WQ _ (by omega)
   rwa [XG,Yf]at this
  obtain⟨w2,X,hh⟩:=zc (b:=g) (off:=0+k*sz) (i:=0) (vs:=f x) (K:=λw'=>∃Q:World,Q=w'/\w'.heap[g]? =some (.cells (wr cur (0+k*sz+0) (f x)) e (0,0))/\aE (·=g) w w') hg (by rw[E.len];omega) (by
   rw[K'];intro u hu;exact E.bP x u hu) λw' a1 a2 _=>⟨w',rfl,a1,a2⟩
  obtain⟨_,_,a1,a2⟩:=hh;refine⟨w2,?_,hK w2 ?_ (a2.mono λb _ hb=>by subst hb;rfl)⟩
  .have hr:=jo (P:=P) ⟨g,0+k*sz,none⟩ _ _ _ _ X;have J:(zeroValue e:Sem Value).run P w=.ok z w:=by
    simp[zeroValue,typeInfo,hi,I,Sem.run_bind]
   simp only[Xw,cA];rw[Wr]at hr ⊢;simp[Builtin.clear_,run_underlying ht,J,V,hr]
  .have hl:(l.take k).length=k:=by simp;omega
   have Y:cur.toList.length=c*sz:=by simpa using g3
   have U:k*sz<=l.length*sz:=WQ _ (by omega);refine Row.da E.len a1 (by omega) g2 (by rw[vF];exact g3) ?_;rw[hl,yW _ _ _ (by rw[E.len];omega),<- CZ E.len (by omega),<- g4];rw[Wr,XN,WH,Wg (by rw[y6,Y];omega),X0,Nat.min_self,X0,WK U]
