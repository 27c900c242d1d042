/- Layer 7: a formula begins to be worked on. -/
import Derived.Test.YtbdghpjnifjlmaaGreatPropC
import Derived.Test.YtbdghpjnifjlmaaGreatPropB
import Derived.Test.YtbdghpjnifjlmaaGreatSortA
set_option linter.unusedVariables false
namespace Go.Proofs.YtbdghpjnifjlmaaGreat.W
open Go Go.Fw Go.RowKit Go.SoP Go.LiP
open Go.Proofs.Tryz (prog)
open Go.IntKind (i64)
section
variable {W w w' w0 w2 w3:World} {nb b ib ab k:Nat} {vars:Int} {id id':List (Int × Int)} {cs ms:List (List Int)} {t:Bool} {cp:sn} {n cc:Nat} {c:List Int}
theorem iV {l:List (List Int)} {i:Nat} (h:i<l.length):l.getD i []∈l:=by simp [List.getD,h]
theorem c8 {α:Type} {l:List α} {i:Nat} (h:i<l.length) (d:α):l.take (i+1)=l.take i++ [l.getD i d]:=by
 rw [UR];simp [List.getD,h]
theorem Oq {p2 p3 p4:Value} {q:sn} {m d:Nat} {hs:List Sl} (X:bT w nb #[.i vars,.map (some ib),p2,p3,p4]) (U:MV sT w ib id) (uw:xK id) (Z:nb≠ib) (hW:ak W w) (y1:W.heap.size<=nb) (y2:W.heap.size<=ib)
 (hv:V2 sT W q hs cs) (hm:m=cs.length) (ac:∀c∈cs,c.length<=4096/\∀x∈c,bU x=true/\Nt id x) (hlen:cs.length<262144) (b8:id.length<=1048576):
 Calls prog j6.id #[ck nb,.slice q m d] w λe w'=>e=.returned (.tuple #[])/\Wk true (λ_=>False) W w' nb (cs.foldl uZ vars) id cs cs.length:=by
 subst hm;refine j6.aj ⟨_,rfl,_,ae X rfl,_,U.len ly _,?_⟩;refine (z_ (k:=(id.length:Int)) (cs:= []) (hs:= []) (q:=none) (m:=0) (d:=0) V2.nil rfl).mono ?_;have a8:cQ (id.length:Int) []=true:=by unfold cQ;simp;omega
 rintro e w4 (⟨hf,_⟩| ⟨_,b,s,H,rfl,pm,g,N,gw,fo⟩)
 . rw [a8] at hf;cases hf
 have az:=X.grow gw;have bc:=U.grow gw;have zw:=hW.size;have z4:=gw.size;have i1:=X.lt;have i2:=U.lt;refine ⟨_,_,rfl,_,rfl,cz az rfl rfl λw8 bb M8=>?_⟩;intro n9 aa lU;have b9:=lU.num;have z8:=M8.size;have ap:bT aa nb _:=bb.grow lU.mod;refine ⟨_,rfl,cz ap rfl rfl λbY av aw=>⟨_,rfl,cz av rfl rfl λJ an ar=>?_⟩⟩;have V:aD (·=nb) w4 J:=((M8.grow lU.mod).trans aw).trans ar;have a7:aD (·=nb) aa J:=aw.trans ar;have bf:n9≠nb:=by omega
 have a':s.vars=id.length:=by have:=N.v;simpa using this
 have b7:s.nc=0:=N.n;have Q:∀x k,own b H x=some k->W.heap.size<=k/\w.heap.size<=k/\k<w4.heap.size:=λx k e=>⟨by have:=fo x k e;omega,fo x k e,pm.lt x k e⟩
 have aX:∀i,¬s.aO i:=λi h=>by have:=h.1;omega
 have hB:RB W J nb b ib n9 vars id H s none 0 [] [] λ_=> []:=by
  refine ⟨an,pm.keep V λx k Y e=>?_,g,bc.keep V λe=>Z e.symm,(MV.new lU).keep a7 bf,Ow.nil _ _ _,λx hx=>by simp at hx,λx k Y=>?_,?_,λx hx=>by simp at hx,?_,?_,N.be,uw,a',by simp,λi=>by simp [aX],λi hi=>by simp at hi,λi hi=>by simp at hi,λi hi=>absurd hi (aX i),λi hi=>by simp at hi,λi hi=>by simp at hi,λx hx=>by simp at hx,by simp⟩
  . have:=Q x k Y;omega
  . have:=Q x k Y;exact ⟨by omega,by omega,by omega,by simp [aG]⟩
  . exact ⟨Z,by omega,by omega,by simp [aG],by simp [aG],by simp [aG]⟩
  . exact (hW.trans gw).then V λk Y e=>by omega
  . exact ⟨y1,y2,by omega,by simp [aG],λx k Y=> (Q x k Y).1⟩
 have aT:Wk true (λ_=>False) W J nb vars id [] 0:=⟨b,ib,n9,H,s,none,0,[],[],_,hB,rfl,by omega,λ_=>N.tr,λj hj=>hj.elim⟩
 refine ⟨λI u z=>∃v:Nat,I=v/\v<=cs.length/\z=cs.length - v/\Wk true (λ_=>False) W u nb ((cs.take v).foldl uZ vars) id (cs.take v) v,⟨_,0,rfl,vx _,rfl,aT⟩,?_⟩;rintro I u z _ ⟨v,rfl,ce,rfl,ku⟩;refine ah (λr=>?_) (λr=>?_)
 . have r:v<cs.length:=by simpa using r
   have O:=iV r;refine (hv.grow ku.wg).ix (by omega) rfl (by omega) λa sl k1 k0 k2 k3 k4=>⟨_,_,_,k1,?_⟩
   rw [tn] at k0 k2;obtain ⟨r1,r2,r3⟩:=hv.r v r;rw [<- k0] at r3;refine (ku.add r3 k2 (ac _ O).1 (ac _ O).2 (by omega)).mono ?_;rintro e b4 ⟨rfl,a_,_⟩;refine ⟨rfl,_,?_,v+1,wN,r,rfl,?_⟩
   . omega
   . rw [c8 r [],XD];exact a_
 . have r:v=cs.length:=by simp at r;omega
   subst r;rw [K'] at ku;exact ⟨rfl,ku⟩
def tC (cs:List (List Int)):Nat:=(cs.map List.length).sum
theorem vA (cs:List (List Int)) (c:List Int):tC (cs++ [c])=tC cs+c.length:=by unfold tC;simp
theorem NK {i:Nat} (h:i<cs.length):tC (cs.take (i+1))=tC (cs.take i)+ (cs.getD i []).length:=by rw [c8 h [],vA]
theorem Fe (i:Nat):tC (cs.take i)<=tC cs:=by
 have h:=congrArg tC (Vi i cs);have e:∀a b:List (List Int),tC (a++b)=tC a+tC b:=λa b=>by unfold tC;simp
 rw [e] at h;omega
theorem EI {v:Int} {p q:sn} {n d m e:Nat} {hs ks:List Sl} (hv:V2 sT w p hs cs) (hn:n=cs.length) (hw:V2 sT w q ks ms) (hm:m=ms.length)
 (Y:∀c∈cs,c.length<=4096/\∀x∈c,bU x=true) (a6:∀c∈ms,c.length<=50000/\∀x∈c,bU x=true) (hlen:cs.length<262144) (b6:ms.length<=1000000):
 Calls prog nK.id #[.agg #[.i v,.slice p n d],.slice q m e] w λe w'=>∃ (nb:Nat) (id:List (Int × Int)),e=.returned (ck nb)/\Wk true (λ_=>False) w w' nb (cs.foldl uZ v) id cs cs.length/\(∀c∈cs++ms,∀x∈c,Nt id x):=by
 subst hn hm;refine nK.aj ?_;intro n1 w2 h2;have e2:=h2.num;refine ⟨_,ae h2.has rfl,?_⟩;intro V w5 h5;have e5:=h5.num;have z2:=h2.mod.size;have s2:=h2.size;intro n6 Z h7;have e7:=h7.num;have s5:=h5.size;have G7:ak w Z:=(h2.mod.trans h5.mod).trans h7.mod;have ay:bT Z n1 _:=(h2.has.grow h5.mod).grow h7.mod;refine ⟨_,_,_,ae ay rfl,?_⟩;have az:xK []:=⟨by simp,λj hj=>by simp at hj,λx X=>by simp at X⟩
 refine ⟨λI u z=>∃ (i:Nat) (id:List (Int × Int)),I=i/\i<=cs.length/\z=cs.length - i/\aD (·=V) Z u/\MV sT u V id/\xK id/\∀c∈cs.take i,∀x∈c,Nt id x,
  ⟨_,0,[],rfl,vx _,rfl,aD.refl _,(MV.new h5).grow h7.mod,az,λc J=>by simp at J⟩,?_⟩
 rintro I u z _ ⟨i,id,rfl,hi,rfl,O,mu,Q,hN⟩;have Qm:=hv.Qm;have bv:=hw.Qm;have bb:∀ {u:World},aD (·=V) Z u->V2 sT u p hs cs:=λO=> (hv.grow G7).mK O λk hk e=>by have:=Qm k hk;omega
 have bu:∀ {u:World},aD (·=V) Z u->V2 sT u q ks ms:=λO=> (hw.grow G7).mK O λk hk e=>by have:=bv k hk;omega
 have ag:∀ {u:World},aD (·=V) Z u->bT u n6 #[.i v,.map (some V),.pointer none,.slice none 0 0,.map none]:=λO=>h7.has.keep O (by omega);have bi:∀ {u:World},aD (·=V) Z u->bT u n1 #[.i v,.slice p cs.length d]:=λO=>ay.keep O (by omega);refine ah (λr=>?_) (λr=>?_)
 . have r:i<cs.length:=by simpa using r
   have U:=iV r;have bn:=Q.le;have bf:=(Y _ U).1;refine (bb O).ix (by omega) rfl (by omega) λa sl k1 k0 k2 k3 k4=>⟨_,_,_,k1,?_⟩
   rw [tn] at k2 k4 k0;obtain ⟨r1,r2,r3⟩:=hv.r i r;rw [<- k0] at r3;refine (HB (ag O) mu Q (by omega) k4 (λan e=>by have:=r3.lt an V e;omega) k2 (Y _ U).2 (by omega)).mono ?_;rintro e bc ⟨rfl,id',aa,ac,nt⟩;refine ⟨rfl,_,?_,i+1,id',wN,r,rfl,O.trans aa,ac,nt.rE,λc J x X=>?_⟩
   . omega
   . rw [c8 r []] at J;rcases F'.1 J with J|J
     . exact nt.kp x (hN c J x X)
     . rw [Bs] at J;subst J;exact nt.all x X
 have r:i=cs.length:=by simp at r;omega
 subst r;rw [K'] at hN;refine ⟨λI u z=>∃ (i:Nat) (id:List (Int × Int)),I=i/\i<=ms.length/\z=ms.length - i/\aD (·=V) Z u/\MV sT u V id/\xK id/\∀c∈cs++ms.take i,∀x∈c,Nt id x,
  ⟨_,0,id,rfl,vx _,rfl,O,mu,Q,λc J=>by simp at J;exact hN c J⟩,?_⟩
 clear O mu Q hN;rintro I u z _ ⟨i,id,rfl,hi,rfl,O,mu,Q,hN⟩;refine ah (λr=>?_) (λr=>?_)
 . have r:i<ms.length:=by simpa using r
   have U:=iV r;have bn:=Q.le;have bf:=(a6 _ U).1;refine (bu O).ix (by omega) rfl (by omega) λa sl k1 k0 k2 k3 k4=>⟨_,_,_,k1,?_⟩
   rw [tn] at k2 k4 k0;obtain ⟨r1,r2,r3⟩:=hw.r i r;rw [<- k0] at r3;refine (HB (ag O) mu Q (by omega) k4 (λan e=>by have:=r3.lt an V e;omega) k2 (a6 _ U).2 (by omega)).mono ?_;rintro e bc ⟨rfl,id',aa,ac,nt⟩;refine ⟨rfl,_,?_,i+1,id',wN,r,rfl,O.trans aa,ac,nt.rE,λc J x X=>?_⟩
   . omega
   . rw [c8 r [],<- U6] at J;rcases F'.1 J with J|J
     . exact nt.kp x (hN c J x X)
     . rw [Bs] at J;subst J;exact nt.all x X
 have r:i=ms.length:=by simp at r;omega
 subst r;rw [K'] at hN;refine ⟨_,_,_,ae (bi O) rfl,?_⟩;have Gu:ak w u:=G7.then O λk hk e=>by omega
 refine (Oq (ag O) mu Q (by omega) Gu (by omega) (by omega) hv rfl (λc J=>⟨(Y c J).1,λx X=>⟨(Y c J).2 x X,hN c (UW _ J) x X⟩⟩) hlen Q.le).mono ?_;rintro e bx ⟨rfl,bg⟩;exact ⟨rfl,n6,id,rfl,bg,hN⟩
end
section
variable {cs cs':List (List Int)} {c d T T':List Int} {v:Int}
theorem Mq (h:∀x∈cs,x∈cs') (I:zY cs d T):zY cs' d T:=by
 induction I with
 |refl=>exact .refl
 |step h1 h2 h3 ih=>exact .step ih (h _ h2) h3
theorem Ih (h:∀x∈cs,x∈cs') (hu:uB cs c):uB cs' c:=by
 rcases hu with ht| ⟨T,J,x,I,hb⟩
 . exact .inl ht
 . exact .inr ⟨T,Mq h J,x,h x I,hb⟩
theorem xf:∀ (c:List Int) (o:Int),(∀x∈c,(x∈T↔x∈T')/\(-x∈T↔ -x∈T'))->je T c o=je T' c o
 | [],_,_=>rfl
 |x::c,o,h=>by
  obtain ⟨h1,J⟩:=h x (UJ ..);have I:=λo=>xf c o λy O=>h y (vy _ O);unfold je;by_cases a:x∈T
  . rw [if_pos a,if_pos (h1.1 a)]
  . rw [if_neg a,if_neg λe=>a (h1.2 e)];by_cases b: -x∈T\/x=o
    . rw [if_pos b,if_pos (Or.imp J.1 (λe=>e) b)];exact I o
    . rw [if_neg b,if_neg λe=>b (Or.imp J.2 (λe=>e) e)];split
      . rfl
      . exact I x
theorem KX (V:NZ cs) (hv:v≠0) (hf:∀c∈cs,v ∉ c/\ -v ∉ c):uB cs [v]↔uB cs []:=by
 have key:∀c∈cs,∀T:List Int,cI c (-v::T)=cI c T/\cu c (-v::T)=cu c T:=λc Y T=>by
  have I:∀x∈c,(x∈ -v::T↔x∈T)/\(-x∈ -v::T↔ -x∈T):=λx I=>by
   have h1:x≠ -v:=λe=> (hf c Y).2 (e▸I);have U: -x≠ -v:=λe=> (hf c Y).1 (by have:x=v:=(by omega);exact this▸I);simp [h1,U]
  refine ⟨xf c 0 I,?_⟩;rw [Wm,cx,cx];exact ⟨λh x J=> ((I x J).2).1 (h x J),λh x J=> ((I x J).2).2 (h x J)⟩
 have Q:∀ {T},zY cs [] T->zY cs [-v] (-v::T):=by
  intro T h
  induction h with
  |refl=>exact .refl
  |step h1 U h3 ih=>
   rename_i t c;rw [<- WN,<- (key c U t).1];exact .step ih U (by rw [(key c U t).1];exact h3)
 obtain ⟨T,X,Z⟩:=yg (cs:=cs) (d:= []) V _ _ (y4 _) .refl;have e1:pM [v]= [-v]:=rfl;have ht:lO [v]=false:=by
  rw [<- U5,lE];rintro ⟨x,I,J⟩;rw [Bs] at I J;omega
 have O:(∃x∈cs,cu x (-v::T)=true)↔∃x∈cs,cu x T=true:=
  ⟨λ⟨x,I,h⟩=>⟨x,I,by rwa [(key x I T).2] at h⟩,λ⟨x,I,h⟩=>⟨x,I,by rwa [(key x I T).2]⟩⟩
 rw [wO V ht (T:= -v::T) (by rw [e1];exact Q X) (Z.imp (λh=>O.2 h) λh x I=>by rw [(key x I T).1,(key x I T).2];exact h x I),wO (c:= []) V rfl X Z,O]
open Classical in
noncomputable def Bq (cs:List (List Int)) (c:List Int):Nat->List Nat->List Nat
 |0,K=>K
 |i+1,K=>Bq cs c i (if uB (cs.take i++K.map λj=>cs.getD j []) c then K else i::K)
theorem AD {i:Nat} {K:List Nat} (hu:uB (cs.take i++K.map λj=>cs.getD j []) c):Bq cs c (i+1) K=Bq cs c i K:=by rw [Bq,if_pos hu]
theorem tq {i:Nat} {K:List Nat} (hu: ¬uB (cs.take i++K.map λj=>cs.getD j []) c):Bq cs c (i+1) K=Bq cs c i (i::K):=by rw [Bq,if_neg hu]
def J9 (n i:Nat) (K:List Nat):Prop:=(∀j∈K,i<=j/\j<n)/\K.Pairwise (·< ·)
theorem J9.cons {n i:Nat} {K:List Nat} (h:J9 n (i+1) K) (hi:i<n):J9 n i (i::K):=by
 refine ⟨λj I=>?_,VZ.2 ⟨λj I=>by have:=h.1 j I;omega,h.2⟩⟩;rcases UI.1 I with rfl|I
 . exact ⟨y4 _,hi⟩
 . have:=h.1 j I;omega
theorem J9.KO {n i:Nat} {K:List Nat} (h:J9 n (i+1) K):J9 n i K:=⟨λj I=>by have:=h.1 j I;omega,h.2⟩
theorem yw {n:Nat} (hn:n=cs.length):∀ {i:Nat} {K:List Nat},i<=n->J9 n i K->J9 n 0 (Bq cs c i K)/\(∀j∈K,j∈Bq cs c i K)/\∀j∈Bq cs c i K,j<i\/j∈K
 |0,K,_,h=>⟨h,λ_ h=>h,λ_ h=> .inr h⟩
 |i+1,K,hi,h=>by
  by_cases hu:uB (cs.take i++K.map λj=>cs.getD j []) c
  . rw [AD hu];obtain ⟨a,b,d⟩:=yw hn (i:=i) (K:=K) (by omega) h.KO;exact ⟨a,b,λj I=> (d j I).imp (λh=>by omega) λh=>h⟩
  . rw [tq hu];obtain ⟨a,b,d⟩:=yw hn (i:=i) (K:=i::K) (by omega) (h.cons (by omega));refine ⟨a,λj I=>b j (vy _ I),λj I=>?_⟩;rcases d j I with h|h
    . exact .inl (by omega)
    . rcases UI.1 h with rfl|h
      . exact .inl (by omega)
      . exact .inr h
end
section
variable {W w w' w0 w2 w3 u:World} {p q:sn} {n m c d n1:Nat} {id id':List (Int × Int)} {hs ks:List Sl} {cs:List (List Int)} {l:List Int}
def CG (id id':List (Int × Int)):Prop:=∀y v,al id y=some v->al id' y=some v
theorem CG.refl (id:List (Int × Int)):CG id id:=λ_ _ h=>h
theorem CG.trans {I:List (Int × Int)} (h:CG id id') (k:CG id' I):CG id I:=λy v e=>k y v (h y v e)
theorem CG.nt (h:CG id id') {x:Int} (I:Nt id x):Nt id' x:=by
 obtain ⟨v,hv⟩:=VJ.1 I.2;exact ⟨I.1,by rw [h _ _ hv];rfl⟩
theorem CG.dw (h:CG id id') {x:Int} (I:Nt id x):Go.Proofs.YtbdghpjnifjlmaaGreat.W.dw id' x=Go.Proofs.YtbdghpjnifjlmaaGreat.W.dw id x:=by
 obtain ⟨v,hv⟩:=VJ.1 I.2;unfold Go.Proofs.YtbdghpjnifjlmaaGreat.W.dw;rw [hv,h _ _ hv]
theorem CG.map (h:CG id id') (hl:∀x∈l,Nt id x):l.map (Go.Proofs.YtbdghpjnifjlmaaGreat.W.dw id')=l.map (Go.Proofs.YtbdghpjnifjlmaaGreat.W.dw id):=Vl λx I=>h.dw (hl x I)
theorem CG.TP (h:CG id id') (hl:∀c∈cs,∀x∈c,Nt id x):cs.map (List.map (Go.Proofs.YtbdghpjnifjlmaaGreat.W.dw id'))=cs.map (List.map (Go.Proofs.YtbdghpjnifjlmaaGreat.W.dw id)):=Vl λc I=>h.map (hl c I)
theorem PH (h:xK id) {a:Int} (ha:1<=a/\a<=1048576) (O:al id a=none):xK (ai id a ((id.length+1:Nat):Int))/\CG id (ai id a ((id.length+1:Nat):Int))/\(al (ai id a ((id.length+1:Nat):Int)) a).isSome/\(ai id a ((id.length+1:Nat):Int)).length=id.length+1:=by
 have J:ai id a ((id.length+1:Nat):Int)=id++ [(a,((id.length+1:Nat):Int))]:=by unfold ai;rw [O];rfl
 refine ⟨⟨uF h.nd _ _,λj Q=>?_,λx I=>?_⟩,λy v e=>?_,by rw [Bh,if_pos rfl];rfl,by rw [J];simp⟩
 . rw [J] at Q ⊢;rw [UH,Va] at Q;by_cases e:j<id.length
   . have:=h.rE j e;simp only [List.getD,UT e] at this ⊢;exact this
   . have:j=id.length:=by omega
     subst this;simp [List.getD]
 . rw [J] at I;rcases F'.1 I with I|I
   . exact h.TD x I
   . rw [Bs] at I;rw [I];exact ha
 . rw [Bh,if_neg λU=>by rw [U,O] at e;cases e];exact e
def CI (O:World) (n1:Nat) (J:List (Int × Int)) (l:List Int) (P:sn) (N C:Nat) (I:Int) (u:World) (z:Nat):Prop:=
 ∃ (j:Nat) (id:List (Int × Int)),I=j/\j<=l.length/\z=l.length - j/\N=j/\aD (·=n1) O u/\MV sT u n1 id/\xK id/\CG J id/\id.length<=J.length+j/\(∀x∈l.take j,Nt id x)/\dz aq u P C ((l.take j).map (dw id))/\∀k,aG P=some k->O.heap.size<=k
theorem KG (hv:V2 sT w p hs cs) (hn:n=cs.length) (hl:∀c∈cs,∀x∈c,bU x=true) (hm:n<=100000) (ej:tC cs<=1000000):
 Calls prog nX.id #[.slice p n c] w λe w'=>∃ (id:List (Int × Int)) (q:sn) (d:Nat) (ks:List Sl),e=.returned (.tuple #[.i (id.length:Int),.slice q cs.length d])/\xK id/\(∀c∈cs,∀x∈c,Nt id x)/\sE sT aE aq w' q d ks (cs.map (List.map (dw id)))/\ak w w'/\(∀k,Cm q ks k->w.heap.size<=k)/\id.length<=tC cs:=by
 subst hn;refine nX.aj ?_;intro n1 w2 h2;have e1:=h2.num;have s2:=h2.size;have Qm:=hv.Qm;refine ⟨λP N C I u z=>∃ (i:Nat) (id:List (Int × Int)) (ks:List Sl),I=i/\i<=cs.length/\z=cs.length - i/\N=i/\aD (·=n1) w2 u/\MV sT u n1 id/\xK id/\id.length<=tC (cs.take i)/\(∀c∈cs.take i,∀x∈c,Nt id x)/\sE sT aE aq u P C ks ((cs.take i).map (List.map (dw id)))/\∀k,Cm P ks k->w2.heap.size<=k,
  ⟨_,0,[],[],rfl,vx _,rfl,rfl,aD.refl _,MV.new h2,⟨by simp,λj hj=>by simp at hj,λx hx=>by simp at hx⟩,by simp,λc hc=>by simp at hc,⟨Ow.nil _ _ _,rfl,λj hj=>by simp at hj,λj k hj=>by simp at hj,λi j k hi=>by simp at hi⟩,λk Q=>by
    rcases Q with Q| ⟨x,hx,_⟩
    . simp [aG] at Q
    . simp at hx⟩,?_⟩
 rintro P N C I w8 z _ ⟨i,id,ks,rfl,hi,rfl,rfl,M8,m8,rE,c0,hN,ow,fo⟩;have i1:=m8.lt;have Gw:∀ {v:World},aD (·=n1) w2 v->ak w v:=λm=>h2.mod.then m λk Q e=>by omega
 have d6:∀ {v:World},aD (·=n1) w2 v->V2 sT v p hs cs:=λm=>hv.grow (Gw m);have z8:=M8.size;refine ah (λr=>?_) (λr=>?_)
 . have r:N<cs.length:=by simpa using r
   have bc:=iV r;have tt:=NK r;have tl:=Fe (cs:=cs) (N+1);refine (d6 M8).ix (by omega) rfl (by omega) λa sl k1 k0 k2 k3 k4=>⟨_,_,_,k1,?_⟩
   rw [tn] at k0 k2;obtain ⟨_,_,r3⟩:=hv.r N r;rw [<- k0] at r3;refine ⟨CI w8 n1 id (cs.getD N []),⟨_,0,id,rfl,vx _,rfl,rfl,aD.refl _,m8,rE,CG.refl _,by omega,λx hx=>by simp at hx,by simpa using Ow.nil _ _ _,λk Q=>by simp [aG] at Q⟩,?_⟩;generalize hL:cs.getD N []=L at*
   rintro P1 U C1 I1 v z1 _ ⟨j,O,rfl,hj,rfl,rfl,Mv,mv,ar,bk,eg,a8,o,f⟩;have Mw:aD (·=n1) w2 v:=M8.trans Mv;have zv:=Mv.size;have hlen:((L.take U).map (dw O)).length=U:=by simp;omega
   refine ah (λr1=>?_) (λr1=>?_)
   . have r1:U<L.length:=by rw [k2] at r1;simpa using r1
     have tk:∀x,x∈L.take (U+1)↔x∈L.take U\/x=L.getD U 0:=λx=>dS r1;have d':L.take (U+1)=L.take U++ [L.getD U 0]:=c8 r1 0;refine (r3.grow (Gw Mw)).ix 0 (by omega) k2 (by omega) λa e=>⟨_,e,?_⟩
     rw [tn];have c2:=hl L bc _ (bE r1);have hb:=nF c2;have hz:=qL c2;generalize hX:L.getD U 0=X at*
     have ea:imax X (i64.wrap (0 - X))=bh X:=by
      rw [nw X hb];unfold imax bh;split<;>split<;>omega
     try dsimp only
     rw [ea];have ha:1<=bh X/\bh X<=1048576:=by unfold bh;split<;>omega
     have b4:∀id:List (Int × Int),((al id (bh X)).map sT).getD (.i 0)=.i ((al id (bh X)).getD 0):=λid=>by cases al id (bh X)<;>rfl
     have an:∀ {y:World} {id:List (Int × Int)},MV sT y n1 id->(Instr.lookup dO (.map (some n1)) (.i (bh X)) false).run prog y=.ok (.i ((al id (bh X)).getD 0)) y:=λ{y id} h=>by
      have:=h.cP ly (bh X) (sy y)
      rwa [b4] at this
     have dG:∀ (y:World) (J:List (Int × Int)),aD (·=n1) v y->MV sT y n1 J->xK J->CG O J->J.length<=id.length+ (U+1)->(al J (bh X)).isSome->
      aF (decide (X< (0:Int)))
       (∃c3 b_,(Instr.lookup dO (.map (some n1)) (.i (bh X)) false).run prog y=.ok (.i b_) c3/\
         ∀aw ax,jI (.cells #[.i (i64.wrap (0 - b_))] aq) c3 aw ax->
         ∃ay Z ag V,(Builtin.append_ #[aE,aE] aE #[.slice P1 U C1,.slice (some (qw aw)) 1 1]).run prog ax=.ok (.slice Z ag V) ay/\
         ∃Y,Y<L.length - U/\CI w8 n1 id L Z ag V (i64.wrap ((U:Int)+ (1:Int))) ay Y)
       (∃ce cm,(Instr.lookup dO (.map (some n1)) (.i (bh X)) false).run prog y=.ok (.i cm) ce/\
         ∀b5 b6,jI (.cells #[.i cm] aq) ce b5 b6->
         ∃c1 bg a' bb,(Builtin.append_ #[aE,aE] aE #[.slice P1 U C1,.slice (some (qw b5)) 1 1]).run prog b6=.ok (.slice bg a' bb) c1/\
         ∃Y,Y<L.length - U/\CI w8 n1 id L bg a' bb (i64.wrap ((U:Int)+ (1:Int))) c1 Y):=by
      intro y J My my bf aT co a7;have d7:Nt J X:=⟨hz,a7⟩
      have b3:∀x∈L.take (U+1),Nt J x:=λx hx=>by
       rcases (tk x).1 hx with h|rfl
       . exact aT.nt (a8 x h)
       . exact d7
      have a6:(L.take (U+1)).map (dw J)=(L.take U).map (dw O)++ [dw J X]:=by
       rw [d',LV,aT.map a8];rfl
      have eF:0<=(al J (bh X)).getD 0/\(al J (bh X)).getD 0<=2000000:=by
       obtain ⟨vv,b7⟩:=VJ.1 a7;obtain ⟨jj,es,_,rfl⟩:=bf.get b7;rw [b7];simp only [US];have el:=hl L bc;omega
      have ec:=Mv.trans My;have oy:dz aq y P1 C1 ((L.take U).map (dw O)):=o.keep My λk Q e=>by have:=f k Q;omega
      have add:∀ (yv:Int),yv=dw J X->∀aw ax,jI (.cells #[.i yv] aq) y aw ax->
            ∃ay Z ag V,(Builtin.append_ #[aE,aE] aE #[.slice P1 U C1,.slice (some (qw aw)) 1 1]).run prog ax=.ok (.slice Z ag V) ay/\
            ∃Y,Y<L.length - U/\CI w8 n1 id L Z ag V (i64.wrap ((U:Int)+ (1:Int))) ay Y:=by
       rintro yv rfl aw ax av;have er:=av.num;have zy:=My.size;refine Ow.lP c9 (oy.grow av.mod) (dw J X) av.has rfl hlen.symm fz (by rw [hlen];omega) λay p' c' b9 cb bn eb=>?_;rw [<- a6] at b9;rw [hlen];have iy:=my.lt;have bu:aG P1≠some n1:=λe=>by have:=f n1 e;omega
       refine ⟨_,by omega,U+1,J,wN,r1,rfl,rfl,(ec.grow av.mod).then cb λk Q e=>by have:=f k e;omega,(my.grow av.mod).keep cb bu,bf,bk.trans aT,co,b3,b9,λk Q=>?_⟩;have eL:=av.size;rcases bn with rfl|rfl
       . exact f k Q
       . have:=aL Q;omega
      refine ah (λr2=>⟨_,_,an my,?_⟩) (λr2=>⟨_,_,an my,?_⟩)
      . have r2:X<0:=by simpa using r2
        rw [show i64.wrap (0 - (al J (bh X)).getD 0)= -((al J (bh X)).getD 0) by rw [aA (by omega) (by omega)];omega];exact add _ (by unfold dw;rw [if_pos r2])
      . have r2: ¬X<0:=by simpa using r2
        exact add _ (by unfold dw;rw [if_neg r2])
     refine ⟨_,_,an mv,ah (λr2=>?_) (λr2=>?_)⟩
     . have r2:(al O (bh X)).getD 0=0:=by simpa using r2
       have dT:al O (bh X)=none:=by
        cases hv':al O (bh X) with
        |none=>rfl
        |some v'=>
         obtain ⟨jj,_,_,rfl⟩:=ar.get hv';rw [hv'] at r2;simp only [US] at r2;omega
       refine ⟨_,mv.len ly _,?_⟩;rw [wN (i:=O.length+1) (by omega) (by omega)];obtain ⟨cT,hr,dq,mm,_⟩:=mv.put ly (bh X) ((O.length+1:Nat):Int);obtain ⟨a1,a2,a3,a4⟩:=PH ar ha dT;exact ⟨cT,hr,dG cT _ mm dq a1 a2 (by rw [a4];omega) a3⟩
     . have r2:(al O (bh X)).getD 0≠0:=by simpa using r2
       have a7:(al O (bh X)).isSome:=by
        cases hv':al O (bh X) with
        |none=>rw [hv'] at r2;simp at r2
        |some v'=>rfl
       exact dG v O (aD.refl _) mv ar (CG.refl _) (by omega) a7
   . have r1:U=L.length:=by rw [k2] at r1;simp at r1;omega
     subst r1;rw [K'] at o a8 hlen;intro n47 ew ap;have ez:=ap.num;have a6:(cs.take (N+1)).map (List.map (dw O))=(cs.take N).map (List.map (dw id))++ [L.map (dw O)]:=by
      rw [c8 r [],LV,bk.TP hN,hL];rfl
     have d8:sE sT aE aq v P C ks ((cs.take N).map (List.map (dw id))):=ow.keep Mv λk Q e=>by have:=fo k Q;omega
     have du:=ow.lt;have bi:((cs.take N).map (List.map (dw id))).length=N:=by simp;omega
     refine sE.lP (s:=⟨P1,L.length,C1⟩) (x:=L.map (dw O)) jK (d8.grow ap.mod) ap.has bi.symm (o.grow ap.mod) (by simp) (λk Q hf=>by have:=f k Q;have:=du k hf;omega) (by rw [bi];omega) λeR p' c' b8 b' bn eb=>?_;rw [<- a6] at b8;rw [bi];have bu:aG P≠some n1:=λe=>by have:=fo n1 (.inl e);omega
     refine ⟨_,?_,N+1,O,_,wN,r,rfl,rfl,(Mw.grow ap.mod).then b' λk Q e=>by have:=fo k (.inl e);omega,(mv.grow ap.mod).keep b' bu,ar,by omega,λc hc x hx=>?_,b8,λk Q=>?_⟩
     . omega
     . rw [c8 r []] at hc;rcases F'.1 hc with hc|hc
       . exact bk.nt (hN c hc x hx)
       . rw [Bs,hL] at hc;subst hc;exact a8 x hx
     . have eA:=ap.size;rcases Q with Q| ⟨x,hx,Q⟩
       . rcases bn with rfl|rfl
         . exact fo k (.inl Q)
         . have:=aL Q;omega
       . rcases F'.1 hx with hx|hx
         . exact fo k (.inr ⟨x,hx,Q⟩)
         . rw [Bs] at hx;subst hx;have:=f k Q;omega
 . have r:N=cs.length:=by simp at r;omega
   subst r;rw [K'] at ow hN c0;refine ⟨_,m8.len ly _,id,P,C,ks,rfl,rE,hN,ow,Gw M8,λk Q=>?_,c0⟩;have:=fo k Q;omega
end
section
variable {W w w' w0 w2 w3:World} {b n cc nt:Nat} {H H' H2:Pt->Sl} {s t u s':aI} {cp:sn} {c:List Int} {cs:List (List Int)}
structure UD (s s':aI) (c:List Int) (j:Nat):Prop where
 g:aN s'
 k:Ar s s'
 dt:s'.vP=s'.R .tr
 bt:(s'.R .be).length=(s'.R .tr).length
 b0:s'.R .be≠[]->(s'.R .be).getD 0 0=0
 fw:∀x∈c.take j,-x∈s'.R .tr
 bw:∀y∈s'.R .tr,∃x∈c.take j,y= -x
theorem Qd (h:PM w b H s) (g:aN s) (U:s.R .be= []) (aa:s.R .tr= []) (ht:bT w nt #[ck b,.slice cp n cc]) (a': ∀x,own b H x≠some nt) (hc:Vw sT w cp c) (bn:∀k,aG cp=some k->∀x,own b H x≠some k) (hn:n=c.length) (b5:c≠[]) (Q:n<=100000)
 (b3:∀x∈c,dN s.vars x) (Y:lO c=false) (bk:∀x,x∈cs↔s.AP x):
 Calls prog gI.id #[ck nt] w λe w'=>∃r:Bool,e=.returned (.bool r)/\(r=true↔uB cs c)/\∃H' s',Pw w w' b H H' s'/\aN s'/\Ar s s'/\s'.R .be= []/\s'.R .tr= []:=by
 subst hn;refine gI.aj ⟨_,rfl,_,ae ht rfl,_,rfl,_,_,_,ae ht rfl,?_⟩;refine ⟨λI u z=>∃j:Nat,I=j/\j<=c.length/\z=c.length - j/\∃H' s',Pw w u b H H' s'/\UD s s' c j,⟨_,0,rfl,vx _,rfl,H,s,Pw.refl h (aD.refl _),
  ⟨g,.refl s,by unfold aI.vP;rw [U,aa];rfl,by rw [U,aa],λe=>absurd U e,λx Q=>by simp at Q,λy J=>by rw [aa] at J;simp at J⟩⟩,?_⟩
 rintro I u z _ ⟨j,rfl,hj,rfl,H1,O,P1,R⟩;have bg:Vw sT u cp c:=hc.keep P1.mod λk hk ⟨x,e⟩=>bn k hk x e;have ac:bT u nt _:=ht.keep P1.mod λ⟨x,e⟩=>a' x e;have k1:=R.g.wf;refine ah (λr=>?_) (λr=>?_)
 . have r:j<c.length:=by simpa using r
   have hm:=bE r;have tk:∀x,x∈c.take (j+1)↔x∈c.take j\/x=c.getD j 0:=λx=>dS r;refine bg.ix 0 (by omega) rfl (by omega) λa e=>⟨_,e,_,rfl,_,ae ac rfl,?_⟩
   rw [tn];generalize hX:c.getD j 0=X at*
   have hv:dN O.vars X:=by rw [R.k.v];exact b3 X hm
   refine (yL P1.pm k1 _).mono ?_;rintro e bu ⟨rfl,ay⟩;have an:=P1.grow ay;have av:O.value X=O.val X:=by
    unfold aI.value;rw [(jc R.g.eG).2 hv];rfl
   rw [av];refine ⟨_,rfl,ah (λr2=>?_) (λr2=>?_)⟩
   . have r2:O.val X=0:=by simpa using r2
     refine ⟨_,rfl,_,ae (ac.grow ay) rfl,?_⟩;rw [nw _ (hv.bd R.g.eG)];have az:O.val (-X)=0:=by rw [pq hv,r2];rfl
     refine (wL an.pm R.g (-X)).mono ?_;rintro e bb ⟨r,rfl,H',hd⟩;obtain ⟨rfl,P⟩:r=0/\Pw bu bb b H1 H' (O.decide (-X)):=hd.elim (λh=>⟨h.1,h.2.2.2⟩) λh=>absurd ⟨hv.neg,az⟩ h.2.1;have V:=Cf (s:=O) (-X);have a7:=Bv O (-X);refine ⟨_,rfl,_,by omega,j+1,wN,r,rfl,H',_,an.trans P,⟨oX R.g hv.neg az,R.k.trans (.decide O _),by rw [AA R.g,R.dt,V],by rw [a7,V];simp [R.bt],λ_=>?_,λx Q=>?_,λy J=>?_⟩⟩
     . rw [a7];cases U:O.R .be with
       |nil=>
        have:=R.bt;rw [U] at this;rw [<- this];rfl
       |cons y l=>
        have:=R.b0 (by rw [U];simp);rw [U] at this;simpa using this
     . rw [V];rcases (tk x).1 Q with Q|rfl
       . exact UW _ (R.fw x Q)
       . simp
     . rw [V] at J;rcases F'.1 J with J|J
       . obtain ⟨x,Q,e⟩:=R.bw y J;exact ⟨x,(tk x).2 (.inl Q),e⟩
       . rw [Bs] at J;exact ⟨X,(tk X).2 (.inr rfl),J⟩
   . have r2: ¬O.val X=0:=by simpa using r2
     have r1: ¬O.val X=1:=λr1=>by
      obtain ⟨x',bi,e⟩:=R.bw _ ((R.g.v1 _ hv).1 r1);have:lO c=true:=lE.2 ⟨x',UN bi,e▸hm⟩;rw [Y] at this;cases this
     have a_:O.val X= -1:=by
      rcases aI.ri k1 X with e|e|e
      . exact absurd e r2
      . exact absurd e r1
      . exact e
     have bx:=(R.g.vm hv).1 a_;refine ⟨_,by omega,j+1,wN,r,rfl,H1,O,an,⟨R.g,R.k,R.dt,R.bt,R.b0,λx Q=>?_,λy J=>?_⟩⟩
     . rcases (tk x).1 Q with Q|rfl
       . exact R.fw x Q
       . exact bx
     . obtain ⟨x,Q,e⟩:=R.bw y J;exact ⟨x,(tk x).2 (.inl Q),e⟩
 . have r:j=c.length:=by simp at r;omega
   subst r;refine ⟨_,rfl,_,ae ac rfl,(Gh P1.pm R.g).mono ?_⟩;rintro e ce ⟨r,rfl,s2,H2,P2,g2,x,hT⟩;have PP:=P1.trans P2;have kk:=R.k.trans (.ext x);have fw:∀x∈c,-x∈O.R .tr:=λx Q=>R.fw x (by rw [K'];exact Q);have ar:s2.vP=O.R .tr:=by rw [HZ R.g x,R.dt]
   have aw:∀y,y∈cs↔s2.AP y:=λy=>by
    rw [bk];unfold aI.AP;exact ⟨λ⟨i,hi,e⟩=>⟨i,kk.lW.2 hi,by rw [kk.a];exact e⟩,λ⟨i,hi,e⟩=>⟨i,kk.lW.1 hi,by rw [<- kk.a];exact e⟩⟩
   have key:=CB (cs:=cs) (c:=c) g2 hT aw Y (λy J=>x.mem (fw y J)) (λy J=>by
    rw [ar] at J;obtain ⟨z,hz,rfl⟩:=R.bw y J;rw [U_];exact UN hz)
   have a6:s2.R .be≠[]:=by
    rw [x.be];intro e2;have:=R.bt;rw [e2] at this;have aT:=UF this.symm;have:=fw _ (List.head_mem b5);rw [aT] at this;simp at this
   have bY:(s2.R .be).getD 0 0=0:=by rw [x.be];exact R.b0 (by rw [<- x.be];exact a6)
   have Z:0< (s2.R .be).length:=Vb.2 a6;refine ⟨_,rfl,(Eb PP.pm g2 0).mono ?_⟩;rintro e u' co ⟨rfl,rfl,H3,P3⟩;have hz:(max (0:Int) 0).toNat=0:=rfl;rw [hz,if_pos Z] at P3;obtain ⟨_,_,_,_,e1,e2⟩:=wI (s:=s2) 0;refine ⟨rfl,_,rfl,_,rfl,by rw [decide_eq_true_eq];exact key,H3,_,PP.trans P3,mj g2 Z,kk.trans (Ar.bW s2 0),by rw [e1];rfl,by rw [e2,bY];rfl⟩
end
section
variable {W w w' w0 w2 w3 u:World} {p q:sn} {n m d b nl i:Nat} {id:List (Int × Int)} {hs ks:List Sl} {cs R:List (List Int)} {c l:List Int} {H H' H2:Pt->Sl} {s t s':aI} {K:List Nat} {vars:Nat}
theorem JK {e:Nat} (h:Vw Sl.v w p hs) (hn:n=hs.length) (hm:n<=100000):Calls prog c4.id #[.slice p n e] w λe w'=>∃ (q:sn) (d:Nat),e=.returned (.slice q hs.length d)/\Ow Sl.v aE w' q d hs/\ak w w'/\(∀b,aG q=some b->w.heap.size<=b):=by
 refine c4.aj ?_;refine ah (λs=>?_) (λs=>?_)
 . have hp:p=none:=by cases p<;>simp at s ⊢
   subst hp;have:hs= []:=by
    rcases hs with _| ⟨x,l⟩
    . rfl
    . obtain ⟨a,ha,_⟩:=h 0 (by simp);cases ha
   subst this;exact ⟨none,0,rfl,Ow.nil _ _ _,aD.refl w,λb hb=>by simp [aG] at hb⟩
 . intro n1 w1 h1;refine Ow.tD (l:=([]:List Sl)) jK (jI.Ap h1) (h.grow h1.mod) rfl hn (λ_=>rfl) (by simp;omega) λw2 p2 J o2 m2 I O=>?_;rw [Vh] at o2 ⊢;have Q:=h1.num;refine ⟨p2,J,rfl,o2,h1.mod.then m2 λb hb e=>?_,λb hb=>?_⟩
   . have:=aL e;omega
   . have:=h1.mod.size;rcases I with rfl|rfl
     . have:=aL hb;omega
     . have:=aL hb;omega
def oI (id:List (Int × Int)) (c:List Int):List Int:=if c= [] then [((id.length+1:Nat):Int)] else c.map (dw id)
def pj (id:List (Int × Int)) (c:List Int):Nat:=if c= [] then id.length+1 else id.length
theorem Eu {n m:Nat} {x:Int} (h:dN n x) (hm:n<=m):dN m x:=by unfold dN at*;omega
theorem Ht:oI id c≠[]:=by
 unfold oI;split
 . simp
 . rename_i h;simpa using h
theorem HN (uw:xK id) (hN:∀x∈c,Nt id x):∀x∈oI id c,dN (pj id c) x:=by
 intro x I;unfold oI pj at*
 split at I
 . rename_i h;rw [if_pos h];rw [Bs] at I;subst I;unfold dN;omega
 . rename_i h;rw [if_neg h];obtain ⟨y,J,rfl⟩:=L0.1 I;exact uw.rO (hN y J)
theorem BT (uw:xK id) (hN:∀x∈c,Nt id x) (ht:lO c=false):lO (oI id c)=false:=by
 unfold oI;split
 . rw [<- U5,lE];rintro ⟨x,J,I⟩;rw [Bs] at J I;omega
 . rw [uw.dw.Is hN];exact ht
theorem Hx (uw:xK id) (I:∀c∈cs,∀x∈c,Nt id x) (hN:∀x∈c,Nt id x):uB (cs.map (List.map (dw id))) (oI id c)↔uB cs c:=by
 have V:NZ (cs.map (List.map (dw id))):=λx U y O=>by
  obtain ⟨X,J,rfl⟩:=L0.1 U;obtain ⟨Y,Q,rfl⟩:=L0.1 O;exact uw.dw.nz _ (I _ J _ Q)
 unfold oI;split
 . rename_i h;subst h;rw [KX V (by omega) (λx U=>by
    obtain ⟨X,J,rfl⟩:=L0.1 U;refine ⟨λe=>?_,λe=>?_⟩
    . obtain ⟨y,O,e⟩:=L0.1 e;have:=uw.rO (I _ J y O);unfold dN at this;omega
    . obtain ⟨y,O,e⟩:=L0.1 e;have:=uw.rO (I _ J y O);unfold dN at this;omega)]
   have:=uw.dw.Uc (c:= []) I (by simp);simpa using this
 . exact uw.dw.Uc I hN
structure Lf (s:aI) (R:List (List Int)) (i:Nat) (K:List Nat) (m:List (Int × Int)) (num:Nat->Nat):Prop where
 g:aN s
 tr:s.R .tr= []
 be:s.R .be= []
 al:∀j:Nat,al m (j:Int)=if j<i\/j∈K then some ((num j:Nat):Int) else none
 th:∀t,s.aO t↔∃j,(j<i\/j∈K)/\num j=t
 a:∀j,j<i\/j∈K->s.R (.a (num j))=R.getD j []
 inj:∀j j',(j<i\/j∈K)->(j'<i\/j'∈K)->num j=num j'->j=j'
 nc:s.nc+i<=2*R.length
 v:s.vars=vars
theorem Lf.drop {m:List (Int × Int)} {num:Nat->Nat} (h:Lf (vars:=vars) s R (i+1) K m num) (U:∀j∈K,i<j):s.aO (num i)/\aN (s.drop (num i))/\(s.drop (num i)).R .tr= []/\(s.drop (num i)).R .be= []/\(∀t,(s.drop (num i)).aO t↔∃j,(j<i\/j∈K)/\num j=t)/\
 (∀j,j<i\/j∈K->(s.drop (num i)).R (.a (num j))=R.getD j []):=by
 have J:s.aO (num i):=(h.th _).2 ⟨i,.inl (by omega),rfl⟩;have up:∀ {j},j<i\/j∈K->j<i+1\/j∈K:=λI=>I.imp (λh=>by omega) λh=>h;have ne:∀ {j},j<i\/j∈K->j≠i:=λI e=>by
  rcases I with I|I
  . omega
  . have:=U _ I;omega
 refine ⟨J,sS h.g J λx V e=>h.g.NR h.tr (h.g.cv _ J x V) e.1,?_,?_,λt=>?_,λj I=>?_⟩
 . rw [q7 _ _ (by simp) (by simp) (by simp) (by simp)];exact h.tr
 . rw [q7 _ _ (by simp) (by simp) (by simp) (by simp)];exact h.be
 . rw [gD,h.th];constructor
   . rintro ⟨⟨j,I,rfl⟩,Q⟩;refine ⟨j,?_,rfl⟩;rcases I with I|I
     . exact .inl (by
        have:j≠i:=λe=>Q (by rw [e]);omega)
     . exact .inr I
   . rintro ⟨j,I,rfl⟩;exact ⟨⟨j,up I,rfl⟩,λe=>ne I (h.inj _ _ (up I) (.inl (by omega)) e)⟩
 . have O:num j≠num i:=λe=>ne I (h.inj _ _ (up I) (.inl (by omega)) e);rw [q7 _ _ (by simp) (by simp) (by simpa using O) (by simp)];exact h.a j (up I)
end
section
variable {W w w' w0 w2 w3 u:World} {p q:sn} {n m d b nl i:Nat} {id:List (Int × Int)} {hs ks:List Sl} {cs R:List (List Int)} {c l:List Int} {H H' H2:Pt->Sl} {s t s' s2:aI} {K:List Nat} {vars:Nat} {mp:List (Int × Int)} {num:Nat->Nat}
def xx (R:List (List Int)) (i:Nat) (K:List Nat):List (List Int):=R.take i++K.map λj=>R.getD j []
theorem Ci (hi:i<=R.length) {x:List Int}:x∈xx R i K↔∃j,(j<i\/j∈K)/\x=R.getD j []:=by
 unfold xx;rw [F',L0,WU];constructor
 . rintro (⟨j,I,rfl⟩| ⟨j,I,rfl⟩)
   . exact ⟨j,.inl (by omega),by simp [List.getD,show j<R.length by omega]⟩
   . exact ⟨j,.inr I,rfl⟩
 . rintro ⟨j,I|I,rfl⟩
   . exact .inl ⟨j,by omega,by simp [List.getD,show j<R.length by omega]⟩
   . exact .inr ⟨j,I,rfl⟩
theorem Jj (f:List Int->List Int) (hi:i<=cs.length) (J:∀j∈K,j<cs.length):xx (cs.map f) i K=(xx cs i K).map f:=by
 unfold xx;rw [LV,WX,VU];refine congrArg _ (Vl λj I=>?_);exact tf (J j I) [] []
theorem Q' (I:∀t,s.aO t↔∃j,(j<i\/j∈K)/\num j=t) (ha:∀j,j<i\/j∈K->s.R (.a (num j))=R.getD j []) (hi:i<=R.length) (x:List Int):x∈xx R i K↔s.AP x:=by
 rw [Ci hi];unfold aI.AP;constructor
 . rintro ⟨j,J,rfl⟩;exact ⟨num j,(I _).2 ⟨j,J,rfl⟩,ha j J⟩
 . rintro ⟨t,ht,rfl⟩;obtain ⟨j,J,rfl⟩:=(I t).1 ht;exact ⟨j,J,ha j J⟩
theorem Lf.gone (h:Lf (vars:=vars) s R (i+1) K mp num) (U:∀j∈K,i<j) (k:Ar (s.drop (num i)) s') (g:aN s') (Q:s'.R .tr= []) (J:s'.R .be= []):Lf (vars:=vars) s' R i K (ad mp (i:Int)) num:=by
 obtain ⟨_,_,_,_,X,V⟩:=h.drop U;have up:∀ {j},j<i\/j∈K->j<i+1\/j∈K:=λI=>I.imp (λh=>by omega) λh=>h;obtain ⟨v1,v2⟩:=l7 (s:=s) (num i);refine ⟨g,Q,J,λj=>?_,λt=>k.lW.trans (X t),λj I=> (k.a _).trans (V j I),λj Y I O e=>h.inj j Y (up I) (up O) e,?_,(k.v.trans v1).trans h.v⟩
 . rw [SF];by_cases e:j=i
   . subst e;rw [if_pos rfl,if_neg];rintro (h|h)
     . omega
     . have:=U _ h;omega
   . rw [if_neg (by omega),h.al];have:(j<i+1\/j∈K)↔(j<i\/j∈K):=by
      constructor
      . rintro (h|h)
        . exact .inl (by omega)
        . exact .inr h
      . exact up
     simp only [this]
 . have:=h.nc;rw [k.n,v2];omega
theorem Lf.nV (h:Lf (vars:=vars) s R (i+1) K mp num) (Z:∀j∈K,i<j) (k:Ar (s.drop (num i)) s2) (Y:s2.R .tr= []) (U:s2.R .be= []) (g:aN s') (A:lS s2 (R.getD i []) s'):Lf (vars:=vars) s' R i (i::K) (ai mp (i:Int) (s2.nc:Int)) (λj=>if j=i then s2.nc else num j):=by
 obtain ⟨_,_,_,_,d5,d6⟩:=h.drop Z;obtain ⟨v1,v2⟩:=l7 (s:=s) (num i);have J:∀j,(j<i\/j∈i::K)↔(j=i\/(j<i\/j∈K)):=λj=>by
  rw [UI];constructor
  . rintro (h|h|h)
    . exact .inr (.inl h)
    . exact .inl h
    . exact .inr (.inr h)
  . rintro (h|h|h)
    . exact .inr (.inl h)
    . exact .inl h
    . exact .inr (.inr h)
 have ne:∀ {j},j<i\/j∈K->j≠i:=λI e=>by
  rcases I with I|I
  . omega
  . have:=Z _ I;omega
 have up:∀ {j},j<i\/j∈K->j<i+1\/j∈K:=λI=>I.imp (λh=>by omega) λh=>h;have lt:∀ {j},j<i\/j∈K->num j<s2.nc:=λI=>by
  have:=((d5 _).2 ⟨_,I,rfl⟩).1;rw [k.n];exact this
 refine ⟨g,A.tr.trans Y,A.be.trans U,λj=>?_,λt=>?_,λj I=>?_,λj X I O e=>?_,?_,((A.v.trans k.v).trans v1).trans h.v⟩
 . rw [Bh];by_cases e:j=i
   . subst e;simp
   . rw [if_neg (by omega),h.al,if_neg e];have:(j<i+1\/j∈K)↔(j<i\/j∈i::K):=by
      rw [J];constructor
      . rintro (h|h)
        . exact .inr (.inl (by omega))
        . exact .inr (.inr h)
      . rintro (h|h)
        . exact absurd h e
        . exact up h
     simp only [this]
 . have Q:s'.aO t↔s2.aO t\/t=s2.nc:=by
    unfold aI.aO;rw [A.n,A.g];by_cases e:t=s2.nc
    . subst e;simp
    . rw [if_neg e];exact ⟨λ⟨h1,V⟩=> .inl ⟨by omega,V⟩,λh=>h.elim (λ⟨h1,V⟩=>⟨by omega,V⟩) λh=>absurd h e⟩
   rw [Q,k.lW,d5];constructor
   . rintro (⟨j,I,rfl⟩|rfl)
     . exact ⟨j,(J j).2 (.inr I),if_neg (ne I)⟩
     . exact ⟨i,(J i).2 (.inl rfl),if_pos rfl⟩
   . rintro ⟨j,I,e⟩;rcases (J j).1 I with rfl|I
     . rw [if_pos rfl] at e;exact .inr e.symm
     . rw [if_neg (ne I)] at e;exact .inl ⟨j,I,e⟩
 . rw [A.a];rcases (J j).1 I with rfl|I
   . rw [if_pos rfl,if_pos rfl]
   . have:=lt I;rw [if_neg (ne I),if_neg (by omega),k.a];exact d6 j I
 . rcases (J j).1 I with rfl|I
   . rcases (J X).1 O with rfl|O
     . rfl
     . have:=lt O;rw [if_pos rfl,if_neg (ne O)] at e;omega
   . rcases (J X).1 O with rfl|O
     . have:=lt I;rw [if_pos rfl,if_neg (ne I)] at e;omega
     . rw [if_neg (ne I),if_neg (ne O)] at e;exact h.inj j X (up I) (up O) e
 . have:=h.nc;rw [A.n,k.n,v2];omega
theorem yI {n:Nat}:∀ {K:List Nat} {i:Nat},J9 n i K->∀v,K.filter (λj=>decide (j<v+1))=K.filter (λj=>decide (j<v))++ (if v∈K then [v] else [])
 | [],_,_,v=>by simp
 |a::K,i,h,v=>by
  have hp:=VZ.1 h.2;have U:J9 n i K:=⟨λj I=>h.1 j (vy _ I),hp.2⟩
  have Y:=yI U v;by_cases e:a<v
  . rw [Wx (by simp;omega),Wx (by simp;omega),Y,WN];have:(v∈a::K)↔v∈K:=by rw [UI];exact ⟨λh=>h.resolve_left (by omega),.inr⟩
    simp only [this]
  . have X:∀j∈K,¬j<v+1\/a<v:=λj I=> .inl (by have:=hp.1 j I;omega);have Q:K.filter (λj=>decide (j<v+1))= []:=W7.2 λj I=>by have:=hp.1 j I;simp;omega
    have O:K.filter (λj=>decide (j<v))= []:=W7.2 λj I=>by have:=hp.1 j I;simp;omega
    have J:v ∉ K:=λhv=>by have:=hp.1 v hv;omega
    by_cases V:a=v
    . subst V;rw [Wx (by simp),Wy (by simp),Q,O,if_pos (UJ ..)];rfl
    . rw [Wy (by simp;omega),Wy (by simp;omega),Q,O,if_neg]
      . rfl
      . rw [UI];rintro (h|h)
        . omega
        . exact J h
end
section
variable {W w w' w0 w2 w3 u:World} {p q:sn} {n m d b nl i:Nat} {id:List (Int × Int)} {hs ks:List Sl} {cs R:List (List Int)} {c l:List Int} {H H' H2:Pt->Sl} {s t s' s2:aI} {K:List Nat} {vars:Nat} {mp:List (Int × Int)} {num:Nat->Nat}
theorem Dt {n:Nat}:∀ {K:List Nat} {i:Nat},J9 n i K->i<=n->K.length+i<=n
 | [],_,_,h=>by simpa using h
 |a::K,i,h,hi=>by
  have hp:=VZ.1 h.2;have ha:=h.1 a (UJ ..);have:=Dt (K:=K) (i:=a+1) ⟨λj I=>⟨hp.1 j I,(h.1 j (vy _ I)).2⟩,hp.2⟩ (by omega);rw [U9];omega
theorem Aq (h:lO c=true):∀i,Bq cs c i []= []
 |0=>rfl
 |i+1=>by rw [AD (.inl h)];exact Aq h i
theorem Pf {α:Type} {f:α->Value} {b:Nat} {a:Array Value} {l:List α} (h:bT w b a) (J:a.toList=l.map f):Vw f w (some ⟨b,0,none⟩) l:=by
 intro j I;refine ⟨_,rfl,ae h ?_⟩;rw [UX,<- Xb,J,Vx,Mb I];rfl
theorem te {b:Nat} {sl:Sl} (h:bT w b #[.slice sl.p sl.n sl.c]):Vw Sl.v w (some ⟨b,0,none⟩) [sl]:=λj I=>by
 have:j=0:=by simpa using I
 subst this;exact ⟨_,rfl,ae h rfl⟩
theorem V2.Tw {α:Type} {f:α->Value} {rows:List (List α)} (h:V2 f w p hs rows) (k:Nat):V2 f w p (hs.take k) (rows.take k):=by
 have e:∀ {β:Type} (l:List β) (d:β) (j:Nat),j<k->(l.take k).getD j d=l.getD j d:=λl d j I=>by
  simp only [y6,Vf];rw [if_pos I]
 refine ⟨λj I=>?_,by simp [h.n],λj I=>?_⟩
 . rw [GD] at I;obtain ⟨a,h1,J⟩:=h.h j (by omega);exact ⟨a,h1,by rw [Wh];exact J⟩
 . rw [GD] at I;rw [e _ _ _ (by omega),e _ _ _ (by omega)];exact h.r j (by omega)
structure LI (w30 u:World) (b nl:Nat) (H:Pt->Sl) (vars:Nat) (R cs:List (List Int)) (c:List Int) (i:Nat) (K:List Nat) (H':Pt->Sl) (s:aI) (mp:List (Int × Int)) (num:Nat->Nat):Prop where
 pm:PM u b H' s
 lf:Lf (vars:=vars) s R i K mp num
 mv:MV sT u nl mp
 md:aD (λk=>k=nl\/∃x,own b H x=some k) w30 u
 ow:∀x k,own b H' x=some k->(∃y,own b H y=some k)\/w30.heap.size<=k
 rs:J9 cs.length i K
 nd:Bq cs c cs.length []=Bq cs c i K
theorem Ll {e:Nat} (hv:V2 sT w p hs cs) (hn:n=cs.length) (hl:∀c∈cs,c.length<=4096/\∀x∈c,bU x=true) (hc:Vw sT w q c) (hm:m=c.length) (eu:jf c=true) (Z:cs.length<=99000) (fd:tC cs+c.length<=1000000):
 Calls prog oO.id #[.slice p n d,.slice q m e] w λe w'=> (¬uB cs c/\e=.returned (.tuple #[.slice none 0 0,.bool false])/\ak w w')\/(uB cs c/\∃ (q':sn) (d':Nat),e=.returned (.tuple #[.slice q' (Bq cs c cs.length []).length d',.bool true])/\dz aq w' q' d' ((Bq cs c cs.length []).map λj:Nat=> (j:Int))/\ak w w'):=by
 subst hn hm;have ej:=cy eu;have eR:∀x∈cs++ [c],∀y∈x,bU y=true:=λx Z=>by
  rcases F'.1 Z with h|h
  . exact (hl x h).2
  . rw [Bs] at h;subst h;exact ej.1
 refine oO.aj (Calls.mono (R:=λe w'=>e=.returned (.bool (lO c))/\ak w w') (wY.aj ((uy hc rfl (by unfold maxLen;omega)).mono ?_)) ?_)
 . rintro e w1 ⟨qn,dn,mn,_,rfl,_,g1⟩;rw [eu,VL];exact ⟨_,_,_,_,rfl,rfl,g1⟩
 rintro e w1 ⟨rfl,g1⟩;refine ⟨_,rfl,ah (λht=> .inr ⟨.inl ht,none,0,by rw [Aq ht];rfl,by rw [Aq ht];exact Ow.nil _ _ _,g1⟩) (λht=>?_)⟩;refine (JK (hv.h.grow g1) (by rw [hv.n]) (by omega)).mono ?_;rintro e w3 ⟨qh,dh,rfl,oh,g3,fh⟩;have G3:=g1.trans g3;have z1:=g1.size;refine ⟨_,_,_,rfl,?_⟩;intro n5 w6 h6;have hlen:=hv.n;refine Ow.tD jK (oh.grow h6.mod) (te (sl:=⟨q,c.length,e⟩) h6.has) rfl rfl (λ_=>rfl) (by simp;omega) λw7 p7 c7 o7 m7 i4 h_=>?_;have e5:=h6.num;have z3:=g3.size;have s6:=h6.size;have G6:=G3.trans h6.mod;have G7:ak w w7:=G6.then m7 λk O e=>by have:=fh k e;omega
 have V7:V2 sT w7 p7 (hs++ [⟨q,c.length,e⟩]) (cs++ [c]):=((hv.vr.mA (VR.bJ (s:=⟨q,c.length,e⟩) hc rfl (by show c.length<=maxLen;unfold maxLen;omega))).grow G7).v2 o7.vw;have el:(hs++ [(⟨q,c.length,e⟩:Sl)]).length=(cs++ [c]).length:=by simp [hlen]
 rw [el];refine (KG V7 rfl eR (by simp;omega) (by rw [vA];exact fd)).mono ?_;rintro e9 w9 ⟨id,Y,b',ks,rfl,rE,hN,ag,g9,f9,fj⟩;have ax:∀x∈c,Nt id x:=hN c (by simp);have av:∀x∈cs,∀y∈x,Nt id y:=λx Z=>hN x (UW _ Z);have G9:=G7.trans g9;have z7:=G7.size;have ar:((cs++ [c]).map (List.map (dw id))).length=cs.length+1:=by simp
 rw [vA] at fj;have hR:(cs++ [c]).map (List.map (dw id))=cs.map (List.map (dw id))++ [c.map (dw id)]:=by simp
 have e1:pj id c<=1048576:=by
  have:=rE.nd;unfold pj;split<;>omega
 refine ⟨_,_,_,_,rfl,?_⟩;have hL:cs.length+1<=b':=by
  have:=ag.n;rw [ar] at this;rcases ag.h.un with ⟨_,_,e⟩| ⟨_,_,_,_,h,_⟩
  . rw [e] at this;simp at this
  . omega
 try dsimp only
 rw [wN (x:=((cs++ [c]).length:Int) - 1) (i:=cs.length) (by simp) (by omega)];refine ⟨λv u=>v=(pj id c:Int)/\ak w7 u/\∃kF,V2 sT u Y kF (cs.map (List.map (dw id))++ [oI id c]),?_,?_⟩
 . have z9:=g9.size;have eH:=ag.n;rw [ar] at eH;refine ah (λr=>?_) (λr=>?_)
   . have r:c= []:=by
      have:(c.length:Int)=0:=by simpa using r
      exact UF (by omega)
     subst r;intro c1 iy az;have i9:=az.num;have e0:i64.wrap ((id.length:Int)+1)=((id.length+1:Nat):Int):=wN (by omega) (by simp at fj;omega);rw [e0] at az ⊢;refine (ag.h.grow az.mod).st (⟨some ⟨c1,0,none⟩,1,1⟩:Sl) rfl rfl (by omega) (by simp;omega) (by simp;omega) λhW e8 c0=>?_;rw [tn] at e8;have b6:∀k,aG Y=some k->w7.heap.size<=k/\k<w9.heap.size:=λk O=>⟨f9 k (.inl O),ag.h.lt k O⟩
     have en:aG Y≠some c1:=λe=>by have:=b6 _ e;omega
     refine ⟨rfl,(g9.trans az.mod).then c0 λk O e=>?_,ks.set cs.length ⟨some ⟨c1,0,none⟩,1,1⟩,e8.vw,by simp [eH],λj V=>?_⟩
     . have:=b6 k e;omega
     . have V:j<cs.length+1:=by simpa using V
       rw [NL (by omega)];by_cases e:j=cs.length
       . subst e;rw [if_pos rfl];have eg:(cs.map (List.map (dw id))++ [oI id []]).getD cs.length []= [((id.length+1:Nat):Int)]:=by
          simp [List.getD,oI]
         rw [eg];exact ⟨rfl,by show 1<=maxLen;decide,(Pf az.has rfl).keep c0 λk O e=>en (by have:=aL O;rw [<- this];exact e)⟩
       . rw [if_neg e];have h3:j<cs.length:=by omega
         obtain ⟨r1,r2⟩:=ag.r j (by rw [ar];omega);have eg:(cs.map (List.map (dw id))++ [oI id []]).getD j []=((cs++ [[]]).map (List.map (dw id))).getD j []:=by
          rw [hR];simp only [y6];rw [UT (by simp;omega),UT (by simp;omega)]
         rw [eg];exact ⟨r1,by rw [r1];exact r2.cap,(r2.vw.grow az.mod).keep c0 λk O e=>ag.d0 j k (by rw [ar];omega) O e⟩
   . have r:c≠[]:=λe=>by subst e;simp at r
     refine ⟨by unfold pj;rw [if_neg r],g9,ks,?_⟩;have:oI id c=c.map (dw id):=by unfold oI;rw [if_neg r]
     rw [this,<- hR];exact ag.v2
 . rintro _ bk _ ⟨rfl,g6,kF,bf⟩;have fq:=bf.Qm;have lR:(cs.map (List.map (dw id))).length=cs.length:=by simp
   have b8:(cs.map (List.map (dw id))++ [oI id c]).take cs.length=cs.map (List.map (dw id)):=by rw [UO (by simp),UM (by simp)]
   have e6:cQ (pj id c:Int) (cs.map (List.map (dw id)))=true:=by
    unfold cQ;rw [ts,decide_eq_true_eq,UK];refine ⟨⟨by omega,by omega,by simp;omega⟩,λx Z=>?_⟩;obtain ⟨x',a_,rfl⟩:=L0.1 Z;have fm:∀y∈x',dN (pj id c) (dw id y):=λy hy=>Eu (rE.rO (av x' a_ y hy)) (by unfold pj;split<;>omega);have bb:=CO fm e1 (hl x' a_).1;unfold xN at bb;rw [ts] at bb ⊢;refine ⟨bb.1,?_⟩;rw [UK];intro y hy;obtain ⟨y',gx,rfl⟩:=L0.1 hy;have:=fm y' gx;unfold dN at this;rw [decide_eq_true_eq];unfold bh;split<;>omega
   refine eh 0 cs.length b' rfl rfl rfl (by omega) (by omega) (by omega) ?_;have ei:(if b'=0 then Y else Y.map (·.add (0*1)))=Y:=by split;rfl;exact Ql Y
   rw [ei,Ve,Ve];refine (z_ (k:=(pj id c:Int)) (V2.Tw bf cs.length) (by rw [b8,lR])).mono ?_;rintro i6 fl (⟨hf,_⟩| ⟨_,b,s,H,rfl,pm,g,N,cT,fo⟩)
   . rw [b8,e6] at hf;cases hf
   rw [b8] at N;have eA:=G7.trans g6;have du:=eA.trans cT;have ef:=bf.grow cT;refine ⟨_,_,rfl,ef.ix (by omega) (by simp) (by simp;omega) λa sl k1 k0 k2 k3 k4=>⟨_,_,_,k1,?_⟩⟩;rw [tn] at k2 k4 k0;have eg:(cs.map (List.map (dw id))++ [oI id c]).getD cs.length []=oI id c:=by simp [List.getD]
   rw [eg] at k2 k4;intro n25 gf an;have h8:=an.num;have ep:s.vars=pj id c:=by have:=N.v;simpa using this
   have ey:s.nc=cs.length:=by have:=N.n;simpa using this
   have a': ∀t,s.aO t↔t<cs.length:=λt=>by
    unfold aI.aO;rw [ey];exact ⟨λh=>h.1,λh=>⟨h,N.g t (by simpa using h)⟩⟩
   have cm:∀x,x∈cs.map (List.map (dw id))↔s.AP x:=λx=>by
    unfold aI.AP;constructor
    . intro Z;obtain ⟨j,V,rfl⟩:=I'.1 Z;have ay:j<cs.length:=by simpa using V
      exact ⟨j,(a' j).2 ay,by rw [N.a j (by simpa using ay)];simp [List.getD,ay]⟩
    . rintro ⟨j,V,rfl⟩;have ay:=(a' j).1 V;rw [N.a j (by simpa using ay)];exact iV (by simpa using ay)
   have hT:fl.heap.size<gf.heap.size:=by have:=an.size;omega
   have X:∀x k,own b H x=some k->bk.heap.size<=k/\k<fl.heap.size:=λx k e=>⟨fo x k e,pm.lt x k e⟩
   have bY:∀k,aG sl.p=some k->k<bk.heap.size:=λk O=>by
    obtain ⟨_,_,r3⟩:=bf.r cs.length (by simp);rw [eg,<- k0] at r3;exact r3.lt Ht k O
   have a6:=Ht (id:=id) (c:=c);have a7:(oI id c).length<=100000:=by
    unfold oI;split
    . simp
    . rw [UL];omega
   refine (Qd (pm.grow an.mod) g N.be N.tr an.has (λx e=>by have:=X x _ e;omega) (k4.grow an.mod) (λk O x e=>by have:=bY k O;have:=X x k e;omega) k2 a6 (by rw [k2];exact a7) (λx Z=>by rw [ep];exact HN rE ax x Z) (BT rE ax (by simpa using ht)) cm).mono ?_;rintro kr eN ⟨r,rfl,hr,H1,s1,P1,gr,bi,gS,gn⟩;have eb:r=true↔uB cs c:=hr.trans (Hx rE av ax);have io:=du.size;have ip:=eA.size;have gJ:=du.trans an.mod;have es:ak w eN:=gJ.then P1.mod λk O ⟨x,e⟩=>by have:=X x k e;omega
   refine ⟨_,rfl,ah (λr1=> .inl ⟨λe=> (by rw [eb.2 e] at r1;cases r1),rfl,es⟩) (λr1=>?_)⟩;have hu:uB cs c:=eb.1 (by simpa using r1);intro n29 J aa;have hV:=aa.num;have gs:=cT.size;have U:∀x k,own b H1 x=some k->bk.heap.size<=k/\k<eN.heap.size/\k≠n25:=λx k e=>by
    have jp:=P1.pm.lt x k e;rcases P1.ft x k e with ⟨y,e⟩|e
    . have:=X y k e;have:=P1.mod.size;omega
    . omega
   have j2:=P1.mod.size;have g0:∀ {u:World} {Hc:Pt->Sl} {sc:aI},(∀x k,own b Hc x=some k->(∃y,own b H1 y=some k)\/J.heap.size<=k)->∀x,own b Hc x≠some n29:=λow x e=>by
    have:=aa.size;rcases ow x _ e with ⟨y,e⟩|e
    . have:=U y _ e;omega
    . omega
   refine ⟨λI u z=>∃ (v:Nat) (mp:List (Int × Int)),I=v/\v<=cs.length/\z=cs.length - v/\aD (·=n29) J u/\MV sT u n29 mp/\∀j:Nat,al mp (j:Int)=if j<v then some (j:Int) else none,⟨_,0,[],rfl,vx _,rfl,aD.refl _,MV.new aa,λj=>by rw [if_neg (by omega)];rfl⟩,?_⟩;rintro I u z _ ⟨v,mp,rfl,g5,rfl,Mu,mu,ce⟩;refine ah (λr2=>?_) (λr2=>?_)
   . have r2:v<cs.length:=by simpa using r2
     obtain ⟨gm,ez,e3,er,_⟩:=mu.put ly (v:Int) (v:Int);refine ⟨gm,ez,_,?_,v+1,_,wN,r2,rfl,Mu.trans er,e3,λj=>?_⟩
     . omega
     . rw [Bh];by_cases e:j=v
       . subst e;rw [if_pos rfl,if_pos (by omega)]
       . rw [if_neg (by omega),ce];by_cases e2:j<v
         . rw [if_pos e2,if_pos (by omega)]
         . rw [if_neg e2,if_neg (by omega)]
   have r2:v=cs.length:=by simp at r2;omega
   subst r2;have fb:LI J u b n29 H1 (pj id c) (cs.map (List.map (dw id))) cs c cs.length [] H1 s1 mp λj=>j:=by
    refine ⟨(P1.pm.grow aa.mod).keep Mu λx k O e=>by have:=U x k O;omega,⟨gr,gn,gS,λj=>by rw [ce];simp,λt=>?_,λj V=>?_,λj j' _ _ e=>e,?_,(bi.v).trans ep⟩,mu,Mu.mono λk _ e=> .inl e,λx k O=> .inl ⟨x,O⟩,⟨λj V=>by simp at V,List.Pairwise.nil⟩,rfl⟩
    . rw [bi.lW,a'];constructor
      . intro h;exact ⟨t,.inl h,rfl⟩
      . rintro ⟨j,V,rfl⟩;simpa using V
    . have V:j<cs.length:=by simpa using V
      rw [bi.a,N.a j (by simpa using V)]
    . rw [bi.n,ey,lR];omega
   refine ⟨λp left I u z=>∃ (i:Nat) (K:List Nat) (Hc:Pt->Sl) (sc:aI) (mp:List (Int × Int)) (num:Nat->Nat),p=some ⟨b,0,none⟩/\left=some n29/\I=(i:Int) - 1/\i=z/\i<=cs.length/\LI J u b n29 H1 (pj id c) (cs.map (List.map (dw id))) cs c i K Hc sc mp num,
    ⟨_,cs.length,[],H1,s1,mp,_,rfl,rfl,by rw [aA (by omega) (by omega)],rfl,y4 _,fb⟩,?_⟩
   clear fb mu ce Mu;rintro _ _ I u z _ ⟨i,K,Hc,sc,mp,num,rfl,rfl,rfl,rfl,hH,L⟩;have gl:ak w J:=es.trans aa.mod;have ih:=aa.mod.size;have Gu:∀ {y:World},aD (λk=>k=n29\/∃x,own b H1 x=some k) J y->ak w y:=λm=>gl.then m λk O e=>by
    rcases e with e| ⟨x,e⟩
    . omega
    . have:=U x k e;omega
   have gb:V2 sT J Y kF (cs.map (List.map (dw id))++ [oI id c]):=((ef.grow an.mod).mK P1.mod λk O ⟨x,e⟩=>by have:=fq k O;have:=X x k e;omega).grow aa.mod;have Vu:∀ {y:World},aD (λk=>k=n29\/∃x,own b H1 x=some k) J y->V2 sT y Y kF (cs.map (List.map (dw id))++ [oI id c]):=λm=>gb.mK m λk O e=>by
    have:=fq k O;rcases e with e| ⟨x,e⟩
    . omega
    . have:=U x k e;omega
   have Q:∀ {Hc:Pt->Sl} {k:Nat},(∀x k,own b Hc x=some k->(∃y,own b H1 y=some k)\/J.heap.size<=k)->∀x,own b Hc x=some k->bk.heap.size<=k/\k≠n25/\k≠n29:=λ{Hc k} ow x e=>by
    rcases ow x k e with ⟨y,e⟩|e
    . have:=U y k e;omega
    . have:=aa.size;omega
   refine ah (λr3=>?_) (λr3=>?_)
   . obtain ⟨i,rfl⟩: ∃i',i=i'+1:=⟨i - 1,by simp at r3;omega⟩
     have hI:(((i+1:Nat):Int) - 1)=(i:Int):=by omega
     rw [hI];have ap:=L.mv.cP ly (i:Int) (sy u);rw [L.lf.al,if_pos (.inl (by omega))] at ap;have co:∀j∈K,i<j:=λj V=>by have:=(L.rs.1 j V).1;omega
     obtain ⟨d1,d2,d3,d4,d5,d6⟩:=L.lf.drop co;have g4:sc.is ((num i:Nat):Int)=true:=by
      unfold aI.is;rw [tn,d1.2];have:=d1.1;simp only [Yd,WZ,decide_eq_true_eq];omega
     refine ⟨u,((num i:Nat):Int),ap,(CT L.pm L.lf.g ((num i:Nat):Int)).mono ?_⟩;rintro h0 et ⟨h',rfl,Hd,hd⟩;have Pd:Pw u et b Hc Hd (sc.drop (num i)):=by
      rcases hd with ⟨_,hf,_⟩| ⟨_,_,⟨x,Z,h1,h2⟩,_⟩| ⟨_,_,_,hP⟩
      . rw [g4] at hf;cases hf
      . rw [tn] at Z;exact absurd h1 (L.lf.g.NR L.lf.tr (L.lf.g.cv _ d1 x Z))
      . rw [tn] at hP;exact hP
     have zu:=L.md.size;have b5:∀x k,own b Hd x=some k->(∃y,own b H1 y=some k)\/J.heap.size<=k:=λx k e=>by
      rcases Pd.ft x k e with ⟨y,e⟩|e
      . exact L.ow y k e
      . exact .inr (by omega)
     have b3:aD (λk=>k=n29\/∃x,own b H1 x=some k) J et:=L.md.then Pd.mod λk O ⟨x,e⟩=>by
      rcases L.ow x k e with h|h
      . exact .inr h
      . omega
     have f1:bT J n25 _:=(an.has.keep P1.mod λ⟨x,e⟩=>by have:=X x _ e;omega).grow aa.mod;have tk:∀ {y:World},aD (λk=>k=n29\/∃x,own b H1 x=some k) J y->bT y n25 #[ck b,.slice sl.p sl.n sl.c]:=λm=>f1.keep m λe=>by
      rcases e with e| ⟨x,e⟩
      . omega
      . exact (U x _ e).2.2 rfl
     have cv:∀ {y:World},aD (λk=>k=n29\/∃x,own b H1 x=some k) J y->Vw sT y sl.p (oI id c):=λm=>by
      obtain ⟨_,_,r3⟩:=(Vu m).r cs.length (by simp);rw [eg,<- k0] at r3;exact r3
     have b_:=Q' (R:=cs.map (List.map (dw id))) (i:=i) (K:=K) d5 d6 (by rw [lR];omega);refine ⟨_,rfl,(Qd Pd.pm (sS L.lf.g d1 λx Z e=>L.lf.g.NR L.lf.tr (L.lf.g.cv _ d1 x Z) e.1) d4 d3 (tk b3) (λx e=> (Q b5 x e).2.1 rfl) (cv b3) (λk O x e=>by have:=bY k O;have:=Q b5 x e;omega) k2 a6 (by rw [k2];exact a7) (λx Z=>by rw [(l7 _).1,L.lf.v];exact HN rE ax x Z) (BT rE ax (by simpa using ht)) b_).mono ?_⟩;rintro j5 dT ⟨gA,rfl,fi,He,se,Pe,ge,ke,eT,e'⟩;have fk:∀j∈K,j<cs.length:=λj V=> (L.rs.1 j V).2;have aT:gA=true↔uB (xx cs i K) c:=by
      rw [fi,Jj _ (by omega) fk];refine Hx rE (λx Z y hy=>?_) ax;obtain ⟨j,V,rfl⟩:=(Ci (by omega)).1 Z;have g7:j<cs.length:=by
       rcases V with V|V
       . omega
       . exact fk j V
      exact av _ (iV g7) y hy
     have PE:=Pd.trans Pe;have bu:∀x k,own b He x=some k->(∃y,own b H1 y=some k)\/J.heap.size<=k:=λx k e=>by
      rcases PE.ft x k e with ⟨y,e⟩|e
      . exact L.ow y k e
      . exact .inr (by omega)
     have bv:aD (λk=>k=n29\/∃x,own b H1 x=some k) J dT:=L.md.then PE.mod λk O ⟨x,e⟩=>by
      rcases L.ow x k e with h|h
      . exact .inr h
      . omega
     have e4:MV sT dT n29 mp:=L.mv.keep PE.mod λ⟨x,e⟩=> (Q L.ow x e).2.2 rfl;have ew:i64.wrap ((i:Int) - 1)=(i:Int) - 1:=by rw [aA (by omega) (by omega)]
     refine ⟨_,rfl,ah (λr4=>?_) (λr4=>?_)⟩
     . obtain ⟨gw,eK,ek,b7,_⟩:=e4.del ly (i:Int) 0;refine ⟨gw,eK,i,by omega,i,K,He,se,_,num,rfl,rfl,ew,rfl,by omega,PE.pm.keep b7 λx k O e=>?_,L.lf.gone co ke ge e' eT,ek,bv.then b7 λk _ e=> .inl e,bu,L.rs.KO,?_⟩
       . exact (Q bu x O).2.2 e
       . rw [L.nd];exact AD (aT.1 r4)
     . have g2: ¬uB (xx cs i K) c:=λe=>by rw [aT.2 e] at r4;cases r4
       refine (Vu bv).ix (by omega) (by simp) (by simp;omega) λa2 sl2 q1 q0 q2 q3 q4=>⟨_,_,_,q1,?_⟩
       rw [tn] at q2 q4;have gP:(cs.map (List.map (dw id))++ [oI id c]).getD i []=(cs.map (List.map (dw id))).getD i []:=by
        simp only [y6];rw [UT (by simp;omega)]
       rw [gP] at q2 q4;have b9:=iV (l:=cs.map (List.map (dw id))) (i:=i) (by rw [lR];omega);refine (sb PE.pm ge q4 q2 q3).mono ?_;rintro i_ dp ⟨gk,gv,rfl,sa,Ha,Pa,ga,gc⟩;have bb:xN se.vars ((cs.map (List.map (dw id))).getD i [])=true:=by
        rw [ke.v,(l7 _).1,L.lf.v];obtain ⟨x',a_,e⟩:=L0.1 b9;rw [<- e];exact CO (λy hy=>Eu (rE.rO (av x' a_ y hy)) (by unfold pj;split<;>omega)) e1 (hl x' a_).1
       have hA:se.nc<262144:=by
        have:=L.lf.nc;rw [lR] at this;rw [ke.n,(l7 _).2];omega
       obtain ⟨rfl,rfl,A⟩:gk=se.nc/\gv=0/\lS se ((cs.map (List.map (dw id))).getD i []) sa:=by
        rcases gc with ⟨_,_,hb,_⟩| ⟨_,_,_,hb,_⟩| ⟨a,a2,_,_,a3⟩
        . rw [bb] at hb;cases hb
        . omega
        . exact ⟨a,a2,a3⟩
       have PA:=PE.trans Pa;have bx:∀x k,own b Ha x=some k->(∃y,own b H1 y=some k)\/J.heap.size<=k:=λx k e=>by
        rcases PA.ft x k e with ⟨y,e⟩|e
        . exact L.ow y k e
        . exact .inr (by omega)
       have e7:aD (λk=>k=n29\/∃x,own b H1 x=some k) J dp:=L.md.then PA.mod λk O ⟨x,e⟩=>by
        rcases L.ow x k e with h|h
        . exact .inr h
        . omega
       have d8:MV sT dp n29 mp:=L.mv.keep PA.mod λ⟨x,e⟩=> (Q L.ow x e).2.2 rfl;obtain ⟨gu,eL,d7,bn,_⟩:=d8.put ly (i:Int) (se.nc:Int);refine ⟨_,_,rfl,gu,eL,bA rfl ⟨i,by omega,i,i::K,Ha,sa,_,_,rfl,rfl,ew,rfl,by omega,PA.pm.keep bn λx k O e=>?_,L.lf.nV co ke e' eT ga A,d7,e7.then bn λk _ e=> .inl e,bx,L.rs.cons (by omega),?_⟩⟩
       . exact (Q bx x O).2.2 e
       . rw [L.nd];exact tq g2
   . have:i=0:=by simp at r3;omega
     subst this;have gV:Bq cs c cs.length []=K:=by rw [L.nd];rfl
     rw [gV];have zu:=L.md.size;have ea:∀j:Nat,al mp (j:Int)=if j∈K then some ((num j:Nat):Int) else none:=λj=>by
      rw [L.lf.al];simp
     have f0:(K.filter λj=>decide (j<0))= []:=W7.2 λj _=>by simp
     refine ⟨λP N C I y z=>∃v:Nat,I=v/\v<=cs.length/\z=cs.length - v/\N=(K.filter λj=>decide (j<v)).length/\ak u y/\dz aq y P C ((K.filter λj=>decide (j<v)).map λj:Nat=> (j:Int))/\∀k,aG P=some k->u.heap.size<=k,
      ⟨_,0,rfl,vx _,rfl,by rw [f0];rfl,aD.refl _,by rw [f0];exact Ow.nil _ _ _,λk O=>by simp [aG] at O⟩,?_⟩
     rintro P N C I y z _ ⟨v,rfl,g5,rfl,rfl,gy,o,f⟩;have gT:(K.filter λj=>decide (j<v)).length<=K.length:=Vs _ _;have i3:K.length<=cs.length:=by
      have:=Dt L.rs (vx _);omega
     refine ah (λr4=>?_) (λr4=>?_)
     . have r4:v<cs.length:=by simpa using r4
       have ap:=(L.mv.grow gy).Q9 ly (v:Int) (sy y);rw [ea] at ap;have hf:=yI L.rs v;by_cases hv:v∈K
       . rw [if_pos hv] at ap hf;refine ⟨y,_,true,ap,bP rfl ?_⟩;intro kt kf a8;have jj:=a8.num;have zy:=gy.size;refine Ow.lP c9 (o.grow a8.mod) ((v:Nat):Int) a8.has rfl (by simp) fz (by simp;omega) λit p' c' d9 g8 gp ii=>?_;have fa:(K.filter λj=>decide (j<v+1)).map (λj:Nat=> (j:Int))=(K.filter λj=>decide (j<v)).map (λj:Nat=> (j:Int))++ [(v:Int)]:=by rw [hf,LV];rfl
         rw [<- fa] at d9;refine ⟨_,by omega,v+1,wN,r4,rfl,by rw [hf];simp,(gy.trans a8.mod).then g8 λk O e=>by have:=f k e;omega,d9,λk O=>?_⟩;have:=a8.size;rcases gp with rfl|rfl
         . exact f k O
         . have:=aL O;omega
       . rw [if_neg hv] at ap hf;rw [VF] at hf;exact ⟨y,_,false,ap,bA rfl ⟨_,by omega,v+1,wN,r4,rfl,by rw [hf],gy,by rw [hf];exact o,f⟩⟩
     . have r4:v=cs.length:=by simp at r4;omega
       subst r4;have dq:(K.filter λj=>decide (j<cs.length))=K:=W2.2 λj V=>by simpa using (L.rs.1 j V).2
       rw [dq] at o ⊢;exact .inr ⟨hu,P,C,rfl,o,(Gu L.md).trans gy⟩
end
end Go.Proofs.YtbdghpjnifjlmaaGreat.W
namespace Go.Fw
open Go Go.RowKit
variable {P:Program} {α:Type} {sz:Nat} {f:α->List Value} {T:TypeId} {w w':World} {p q:sn} {c:Nat} {l:List α}
theorem Bm (hf:∀x,(f x).length=sz) {k:Nat} (I:k<=l.length):(l.flatMap f).take (k*sz)=(l.take k).flatMap f:=by
 conv=>lhs;rw [<- Vi k l]
 rw [WE,UO (by rw [j9 hf,GD,U7 I];exact y4 _),UM (by rw [j9 hf,GD,U7 I];exact y4 _)]
theorem Jv (hf:∀x,(f x).length=sz) {k:Nat} (I:k<=l.length):(l.flatMap f).drop (k*sz)=(l.drop k).flatMap f:=by
 conv=>lhs;rw [<- Vi k l]
 rw [WE,XQ (by rw [j9 hf,GD,U7 I];exact y4 _),W9 (by rw [j9 hf,GD,U7 I];exact y4 _),Vh]
theorem Row.cap (h:Row sz f T w p c l):l.length<=c:=by
 rcases h.un with ⟨_,_,rfl⟩| ⟨_,_,_,_,I,_⟩
 . simp
 . exact I
theorem Vr.part (h:Vr sz f w p l) {i m:Nat} (h1:i+m<=l.length):Vr sz f w (p.map (·.add (i*sz))) ((l.drop i).take m):=by
 intro j J;rw [GD,U0] at J;obtain ⟨a,rfl,I⟩:=h (i+j) (by omega);refine ⟨_,rfl,?_⟩;rw [Wh,XC,uP,<- V'];exact I
theorem Row.Dx {t ty e bytes:Nat} (E:GV sz f) (hs:pR P t e sz bytes=true) (h:Row sz f e w p c l) {k m d:Nat} {news:List α} (h2:Vr sz f w q news) (hm:m=news.length) (I:k+m<=l.length) {K:World->Prop}
 (V:∀w',Row sz f e w' p c (l.take k++news++l.drop (k+m))->aD (λb=>aG p=some b) w w'->K w'):
 ∃w',(Builtin.append_ #[t,t] ty #[.slice p k c,.slice q m d]).run P w=.ok (.slice p (k+m) c) w'/\K w':=by
 obtain ⟨ht,i,z,hi,hz,h1,ay,h3⟩:=tY hs;subst hm;rcases UZ news.length with Z|Z
 . have hn:news= []:=UF Z;subst hn;refine ⟨w,?_,V w (by simpa using h) (aD.refl w)⟩;rcases h.un with ⟨rfl,rfl,rfl⟩| ⟨g,cur,rfl,hg,g1,g2,X,g4⟩<;>cases q<;>
    simp [Builtin.append_,run_underlying ht,sizeOf,typeInfo,Builtin.lenOf,Builtin.firstCells,loadCells,loadCellsFrom,storeCells, *]<;>simp at I<;>omega
 . obtain ⟨a,rfl,_⟩:=h2 0 Z;rcases h.un with ⟨rfl,rfl,rfl⟩| ⟨g,cur,rfl,hg,g1,g2,X,g4⟩
   . rw [VE] at I;omega
   . have J:=j9 E.len news;have O:∀u∈news.flatMap f,u.oneCell'=true:=λu hu=>by obtain ⟨x,_,hx⟩:=List.mem_flatMap.1 hu;exact E.bJ x u hx
     have Q:k*sz+news.length*sz=(k+news.length)*sz:=(V' _ _ _).symm;have Y:k*sz+news.length*sz<=cur.size:=by rw [Q,X];exact Vm _ (by omega)
     have hr:=run_append_room (P:=P) w t ty e i ht hi g k c cur hg a news.length d (news.flatMap f) (by rw [J,h1]) (h2.Rr E) O (by omega) (by rw [h1,J];exact Y);rw [h1,J] at hr;have U:cur.toList.length=c*sz:=by simpa using X
     have ag:l.length*sz<=c*sz:=Vm _ g1;have ax:(k+news.length)*sz<=l.length*sz:=Vm _ I;have aa:k*sz<=l.length*sz:=Vm _ (by omega);refine ⟨_,hr,V _ (Row.df E.len (setRow_heap w g cur _ e _ hg) (by simp;omega) g2 ?_ ?_) ⟨rfl,rfl,rfl,by simp,λk _ V=>setRow_other w g k _ λhe=>V (by simp [aG,he])⟩⟩
     . simp only [Wb,UH,GD,U0,J,U];omega
     . have hl:(l.take k++news++l.drop (k+news.length)).length=l.length:=by simp;omega
       rw [hl,WE,WE,<- Bm E.len (by omega),<- Jv E.len I,<- g4];rw [Wu,U7 aa,<- Q];simp only [U6];rw [X_,X_];have e1:(cur.toList.take (k*sz)).length=k*sz:=by rw [GD,U];omega
       rw [e1,J];rw [UM (l:=cur.toList.take (k*sz)) (by rw [e1];omega),UM (l:=news.flatMap f) (by rw [J];omega)];congr 2;rw [List.drop_take];congr 1;omega
theorem Row.clear {t ty e bytes:Nat} (E:GV sz f) (hs:pR P t e sz bytes=true) {x:α} {v:Value} (J:(P.info? e).bind (·.zero)=some v) (hv:v.cells.toList=f x) (h:Row sz f e w p c l) {k d:Nat} (hk:k+1=l.length) {K:World->Prop}
 (hK:∀w',Row sz f e w' p c (l.take k)->aD (λb=>aG p=some b) w w'->K w'):
 ∃w',(Builtin.clear_ #[t] ty #[.slice (p.map (·.add (k*sz))) 1 d]).run P w=.ok (.tuple #[]) w'/\K w':=by
 obtain ⟨ht,i,z,hi,I,h1,hb,h3⟩:=tY hs;have O:z=v:=by simp only [hi,V8] at J;rw [I] at J;exact Vo J
 subst O;rcases h.un with ⟨rfl,rfl,rfl⟩| ⟨g,cur,rfl,hg,g1,g2,g3,g4⟩
 . simp at hk
 . have Q:(Builtin.zeroCells z.cells 1).toList=f x:=by
    have aw:z.cells.size=sz:=h3;rw [<- hv];simp [Builtin.zeroCells];apply VH
    . simp
    . intro i h1 h2;simp only [Wa,X0];have:i<z.cells.size:=by simpa using h2
      simp [Nat.mod_eq_of_lt this,this]
   have ax:k*sz+sz<=c*sz:=by
    have:(k+1)*sz<=c*sz:=Vm _ (by omega)
    rwa [V',WM] at this
   obtain ⟨w2,Y,hh⟩:=yn (b:=g) (off:=0+k*sz) (i:=0) (vs:=f x) (K:=λw'=>∃Z:World,Z=w'/\w'.heap[g]? =some (.cells (wr cur (0+k*sz+0) (f x)) e (0,0))/\aD (·=g) w w') hg (by rw [E.len];omega) (by
    rw [UK];intro u hu;exact E.bJ x u hu) λw' a1 a2 _=>⟨w',rfl,a1,a2⟩
   obtain ⟨_,_,a1,a2⟩:=hh;refine ⟨w2,?_,hK w2 ?_ (a2.mono λb _ hb=>by subst hb;rfl)⟩
   . have hr:=jw (P:=P) ⟨g,0+k*sz,none⟩ _ _ _ _ Y;have X:(zeroValue e:Sem Value).run P w=.ok z w:=by
      simp [zeroValue,typeInfo,hi,I,Sem.run_bind]
     simp only [Wj,dI];rw [UX] at hr ⊢;simp [Builtin.clear_,run_underlying ht,X,Q,hr]
   . have hl:(l.take k).length=k:=by simp;omega
     have V:cur.toList.length=c*sz:=by simpa using g3
     have U:k*sz<=l.length*sz:=Vm _ (by omega);refine Row.df E.len a1 (by omega) g2 (by rw [u5];exact g3) ?_;rw [hl,yF _ _ _ (by rw [E.len];omega),<- Bm E.len (by omega),<- g4];rw [UX,Ws,U6,UO (by rw [GD,V];omega),Wu,Nat.min_self,Wu,U7 U]
end Go.Fw
