/- Layer 37: the statement CertifyCores. -/
import Derived.Test.YtbdghpjnifjlmaaGreatCertA
import Derived.Test.YtbdghpjnifjlmaaGreatPotA
import Derived.Test.YtbdghpjnifjlmaaGreatCountA
set_option linter.unusedVariables false
namespace Go.Proofs.YtbdghpjnifjlmaaGreat.W
open Go Go.Fw Go.RowKit Go.SoP Go.LiP
variable {W w w' w1 w2 u:World} {p q p1 p2:sn} {n m d n1 n2 d1 d2 N:Nat} {k dU cf:Int} {hs ks:List Sl} {cs rows:List (List Int)} {mo c1 c2:List Int} {al:List jb}
theorem Sj {uni lrn:Int} (hN:N<=7) (h:rN uni lrn=true):∃K,Sa K N lrn/\uni=K.u/\K.T=7000:=by
 unfold rN at h;simp only [decide_eq_true_eq] at h;obtain ⟨u,rfl⟩: ∃u:Nat,uni=u:=⟨uni.toNat,by omega⟩
 obtain ⟨a,rfl⟩: ∃a:Nat,lrn=a:=⟨lrn.toNat,by omega⟩
 obtain ⟨k,V,hC⟩: ∃k,2*64<=u*2 ^ k/\u* (k*2 ^ k)<=1152:=by
  have Q:u<=0\/128<=u\/(64<=u/\u<128)\/(32<=u/\u<64)\/(16<=u/\u<32)\/(8<=u/\u<16)\/(4<=u/\u<8)\/(2<=u/\u<4)\/u=1:=by omega
  rcases Q with e|e|e|e|e|e|e|e|e
  . omega
  . exact ⟨0,by omega,by omega⟩
  . exact ⟨1,by omega,by omega⟩
  . exact ⟨2,by omega,by omega⟩
  . exact ⟨3,by omega,by omega⟩
  . exact ⟨4,by omega,by omega⟩
  . exact ⟨5,by omega,by omega⟩
  . exact ⟨6,by omega,by omega⟩
  . exact ⟨7,by omega,by omega⟩
 have J:2 ^ (N - 1)<=64:=UY (Vd (by omega) (by omega:N - 1<=6)) (by decide);have I:∀b l,1<=b->l<=u*Luby.jP b->∃n,PotP.Tl 64 u b l n/\n<=1280:=λb l h1 U=>by
  obtain ⟨n,t,hn⟩:=PotP.Tl.ex V h1 U;exact ⟨n,t,by omega⟩
 have FQ:7000+1<QuP.quo ((a:Int)).toNat 100:=by
  have:=JE (l:=(a:Int)) (by omega) (by omega);rw [zb (by omega) (by decide)] at this;have:90000<QuP.quo ((a:Int)).toNat 100:=Int.ofNat_lt.1 this;omega
 by_cases ha:630<=a
 . refine ⟨⟨64,0,1280,u,7000⟩,⟨by show 1<=u/\u<=1048576;omega,by omega,J,I,λw _=>?_,FQ,?_⟩,rfl,rfl⟩
   . show 64<=QuP.quo ((a:Int)).toNat w - _;rw [tn];rcases w with _|w
     . show 64<=a - 0;omega
     . exact HG (v:=0) (by show 64<=a / 10+1;omega) _ (by omega)
   . unfold KP.qI;show (if 0<0 then _ else 1280)<=7000;rw [if_neg (by omega)];omega
 . obtain ⟨v,v1,v2⟩:=IK a 630 (by omega);refine ⟨⟨64,v+1,1280,u,7000⟩,⟨by show 1<=u/\u<=1048576;omega,by omega,J,I,λw O=>?_,FQ,?_⟩,rfl,rfl⟩
   . show 64<=QuP.quo ((a:Int)).toNat w - _;rw [tn];exact HG (by omega) w O
   . unfold KP.qI;show (if 0<v+1 then QuP.quo ((a:Int)).toNat 0+ (2*N+2)+PotP.MA (QuP.quo ((a:Int)).toNat) (v+1 - 1) 0+ (64+1280) else 1280)<=7000;rw [if_pos (by omega),tn,VV];have:=Qi a v 0;rw [UX] at this;omega
theorem Sz {P:Nat->Prop}:∀n,P n->∃t,t<=n/\P t/\∀j,j<t->¬P j:=by
 intro n
 induction n using Nat.strongRecOn with
 |_ n O=>
  intro h;by_cases e:∃j,j<n/\P j
  . obtain ⟨j,I,hp⟩:=e;obtain ⟨t,h1,J⟩:=O j I hp;exact ⟨t,by omega,J⟩
  . exact ⟨n,y4 _,h,λj I hp=>e ⟨j,I,hp⟩⟩
theorem D5:∀ {i:Nat},i<=c2.length->(eI rows (vO al c2) i).map (·.1)=rows++ (c2.take i).map λv=> (xH al v).2
 |0,_=>by
  show (p6 rows rows.length).map (·.1)=_;rw [DQ _ (y4 _),K'];simp
 |i+1,h=>by
  rw [rh (by rw [oZ (by omega)]),LV,D5 (by omega),c8 (by omega) 0,LV,U6,oZ (by omega)];rfl
theorem G_ (h:ve cs al c1 c2):rG (c1.map (xo cs)) (vO al c2):=by
 obtain ⟨j,O,e⟩:=h.2;obtain ⟨t,h1,J,I⟩:=Sz (P:=λj=> (xH al (c2.getD j 0)).2= []) j e;refine ⟨t,⟨by rw [DD];omega,⟨by rw [oZ (by omega)],by rw [oZ (by omega)];exact J⟩,λi hi hn=>I i hi ?_⟩,λi hi=> .inr ?_⟩
 . have:=hn.2
   rwa [oZ (by omega)] at this
 . rw [D5 (by omega),oZ (by omega)];exact h.1 i (by omega)
theorem I_ {t:Nat}:((gG (lQ cs al t)).map (xo cs)).Sublist cs:=by
 have e:cs=(List.range cs.length).map λi=>cs.getD i []:=by
  refine VH (by simp) λi h1 J=>?_;simp [List.getD,h1]
 have I:(gG (lQ cs al t)).map (xo cs)=(lQ cs al t).map λi=>cs.getD i []:=by
  unfold gG;rw [VU];refine Vl λi _=>?_;show cs.getD ((i:Int)).toNat []=_;rw [tn]
 rw [I];have h:((lQ cs al t).map λi=>cs.getD i []).Sublist ((List.range cs.length).map λi=>cs.getD i []):=by
  unfold lQ;exact XT.map _
 rwa [<- e] at h
theorem PN (ha:V2 sT w p ks rows) (hn:n=rows.length) (hb:V2 sT w q hs cs) (hm:m=cs.length) (h:rows.Sublist cs) (hx:cs.length<=100000):
 Calls Tryz.prog g_.id #[.slice p n d1,.slice q m d2] w λe w'=>e=.returned (.bool true)/\ak w w':=by
 subst hn hm;have hlen:=h.length_le;refine g_.aj ?_;refine ⟨λK I u z=>∃a b:Nat,K=a/\I=b/\a<=rows.length/\b<=cs.length/\z=cs.length - b/\ak w u/\(rows.drop a).Sublist (cs.drop b),⟨_,0,0,rfl,rfl,vx _,vx _,rfl,aD.refl _,by simpa using h⟩,?_⟩;rintro K I u z _ ⟨a,b,rfl,rfl,V,ax,rfl,X,J⟩;refine ah (λr=>ah (λQ=>?_) (λQ=>?_)) (λr=>?_)
 . have r:b<cs.length:=by simpa using r
   have Q:a<rows.length:=by simpa using Q
   have U:=X.trans (rz u);refine (ha.grow U).ix (by omega) rfl (by omega) λad sl k1 k0 k2 k3 k4=>⟨_,_,_,k1,?_⟩
   refine (hb.grow U).ix (by omega) rfl (by omega) λaw az l1 l0 l2 l3 Z=>⟨_,_,_,l1,?_⟩
   rw [tn] at k0 k2 k4 l0 l2 Z;refine (yX k4 Z k2 l2 k3).mono ?_;rintro e ar ⟨rfl,Y⟩;have G:=U.trans Y;have ea:rows.drop a=rows.getD a []::rows.drop (a+1):=oB Q [];have eb:cs.drop b=cs.getD b []::cs.drop (b+1):=oB r [];rw [ea,eb] at J;refine ⟨_,rfl,ah (λO=>⟨_,by omega,a+1,b+1,wN,wN,Q,r,rfl,G,?_⟩) (λO=>⟨_,by omega,a,b+1,rfl,wN,V,r,rfl,G,?_⟩)⟩
   . have O:rows.getD a []=cs.getD b []:=by simpa using O
     rw [O] at J;cases J with
     |cons _ h=>exact (W6 _ _).trans h
     |cons_cons _ h=>exact h
   . have O:rows.getD a []≠cs.getD b []:=by simpa using O
     rw [ea];generalize hx:rows.getD a []=x at J O ⊢;generalize hy:cs.getD b []=y at J O;cases J with
     |cons _ h=>exact h
     |cons_cons _ h=>exact absurd rfl O
 . have Q:a=rows.length:=by simp at Q;omega
   subst Q;exact ⟨by simp,X⟩
 . have r:b=cs.length:=by simp at r;omega
   subst r;rw [V6] at J;have:=List.eq_nil_of_sublist_nil J;have hl:=congrArg List.length this;rw [U0,VE] at hl;have:a=rows.length:=by omega
   subst this;exact ⟨by simp,X⟩
theorem RZ:Mo:=by
 intro w q m d hs V hm;obtain ⟨K,ok,U,X⟩:=Sj (N:=3) (uni:=64) (lrn:=200) (by decide) (by decide);refine (E2 (N:=3) (b:= -1) V hm (by decide) (by decide) rfl (by decide) ok U (by rw [X];decide)).mono ?_;rintro e w' ⟨⟨dU,mp,mn,Y,Z,pn,pc,cf,de,re,dr,er,rfl,_,_,_,_,h⟩,g⟩;rcases h with ⟨_,_,_,_,h,_⟩| ⟨_,_,_,_,mo,_,_,_,hl,I,Q⟩| ⟨rfl,rfl,rfl,_,_,pr,rfl,O,_,_,J,hu⟩
 . exact absurd h (by decide)
 . exfalso;obtain ⟨a,b,c,rfl⟩: ∃a b c,mo= [a,b,c]:=by
    match mo,hl with
    | [a,b,c],_=>exact ⟨a,b,c,rfl⟩
   have Q:=tT.2 Q;rcases I a (by simp) with rfl|rfl<;>rcases I b (by simp) with rfl|rfl<;>rcases I c (by simp) with rfl|rfl<;>exact absurd Q (by decide)
 . exact ⟨_,_,_,_,pr,_,_,_,_,rfl,hu Gm,O,J,g⟩
theorem vZ (g:ak W w):Calls Tryz.prog dg.id #[] w λe w'=>∃r:Bool,e=.returned (.bool r)/\(Ending.returned (Value.bool r)=.returned (.bool true)/\ak W w'):=KS RZ g
theorem Mr {uni lrn:Int} (hc:V2 sT w p hs cs) (hn:n=cs.length) (Z:cs.length<=40) (J:cQ k cs=true) (hk:k<=7) (O:rN uni lrn=true):
 Calls Tryz.prog iv.id #[.agg #[.i k,.slice p n d],.agg #[.i (-1),.i uni,.i lrn]] w λe v=>∃ (g0:Int) (P:sn) (gn C:Nat) (P2:sn) (Y C2:Nat) (E:Int),e=.returned (.tuple #[.agg #[.i g0,.slice P gn C],.slice P2 Y C2,.i E])/\ak w v/\
  ((E≠0/\(E=4/\Es k.toNat cs)/\gn=0/\Y=0)\/(E=0/\g0=k/\∃ (pr:List Ps) (t:Nat) (ks:List Sl),lX (pr.map ik) t/\¬Es k.toNat cs/\(∀i,i<=t->((pr.map ik).getD i cS).1=true\/uB ((eI cs (pr.map ik) i).map (·.1)) ((pr.map ik).getD i cS).2)/\
    gn=((gG (lQ cs (pr.map ik) t)).map (xo cs)).length/\Y=(vO (pr.map ik) (gG (iP cs (pr.map ik) t))).length/\V2 sT v P ks ((gG (lQ cs (pr.map ik) t)).map (xo cs))/\SV v P2 (vO (pr.map ik) (gG (iP cs (pr.map ik) t)))/\
    ve cs (pr.map ik) (gG (lQ cs (pr.map ik) t)) (gG (iP cs (pr.map ik) t))/\fG (pr.map ik)=true)):=by
 have aT:0<=k:=(Ml J).1;obtain ⟨N,rfl⟩: ∃N:Nat,k=N:=⟨k.toNat,by omega⟩
 rw [tn];obtain ⟨K,ok,hK,hT⟩:=Sj (N:=N) (by omega) O;refine xy (A:=λE=>E=4/\Es N cs) (B:=λ_=> ¬Es N cs) hc hn Z J λu gu=> (uQ (A:=λ_ _ _ _ _=>False) (B:=λdU _ pr _=> (dU=1/\Es N cs)\/(dU=2/\¬Es N cs/\PE cs N (pr.map ik)/\pr.length<=14001)) (hc.grow gu) hn λx gx=> (E2 (N:=N) (b:= -1) ((hc.grow gu).grow gx) hn J O rfl (by omega) ok hK (by omega)).mono ?_).mono ?_
 . rintro e y ⟨⟨dU,mp,mn,mc,pp,pn,pc,cf,de,re,dr,er,rfl,_,_,_,_,h⟩,gy⟩;refine ⟨_,_,_,_,_,_,_,_,_,_,_,_,rfl,gy,?_⟩;rcases h with ⟨_,_,_,_,h,_⟩| ⟨rfl,rfl,rfl,_,mo,rfl,hv,hf,hl,aa,V⟩| ⟨rfl,rfl,rfl,_,ar,pr,rfl,U,I,X,Q,_⟩
   . exact absurd h (by decide)
   . have V:=tT.2 V;refine .inr ⟨rfl,mo,[],hv,.inr hf,rfl,by unfold maxLen;omega,⟨λj hj=>by simp at hj,λu hu=>by simp at hu,λh=>absurd rfl h,λu hu=>by simp at hu⟩,λu hu=>by simp at hu,rfl,vx _,by omega,(ze ⟨J,rfl,by decide,by decide⟩ (.inl ⟨rfl,by omega,V⟩)).symm,.inl ⟨rfl,mo,⟨hl,aa⟩,V⟩⟩
   . refine .inr ⟨rfl,[],pr,Vw.nil,.inl rfl,rfl,vx _,U,λu hu=>?_,rfl,Q,by omega,(ze ⟨J,I.RU (by omega),by decide,by decide⟩ (.inr ⟨rfl,I.pv.1⟩)).symm,.inr ⟨rfl,λ⟨mo,h1,h2⟩=>?_,I,by omega⟩⟩
     . have:=(I.rO (ik u) (U1 hu)).len;have:u.2.2.length<=N:=this;unfold maxLen;omega
     . have:=Kh (by omega) ar h1;rw [h2] at this;cases this
 . rintro e y ⟨dU,mp,mn,mc,pp,pn,pc,cf,er,rfl,gy,⟨_,h⟩| ⟨rfl,mo,pr,_,_,_,_,U,_,ac,Q,_,_,hb⟩⟩
   . exact h.elim
   refine ⟨_,_,_,_,_,_,_,_,_,rfl,gy,?_⟩;rcases hb with ⟨rfl,hs⟩| ⟨rfl,an,I,X⟩
   . exact .inr (.inl ⟨rfl,by decide,rfl,hs⟩)
   . refine .inr (.inr ⟨rfl,rfl,pr,U,ac,Q,by omega,λu hu=>?_,I.RU (by omega),I.plain,an⟩);have:=(I.rO (ik u) (U1 hu)).len;have:u.2.2.length<=N:=this;omega
theorem um {b uni lrn:Int} (hc:V2 sT w q hs cs) (hm:m=cs.length):
 Calls Tryz.prog cF.id #[.agg #[.i k,.slice q m d],.agg #[.i b,.i uni,.i lrn]] w λe w'=>e=.returned (.bool true)/\ak w w':=by
 refine cF.aj ?_;intro n1 w2 h2 n3 w4 h4;have G4:=h2.mod.trans h4.mod;refine ⟨_,_,_,_,bS (h2.has.grow h4.mod),(QL (hc.grow G4) hm).mono ?_⟩;rintro e w7 ⟨r8,rfl,hf,g7⟩;have G7:=G4.trans g7;have B7:=(h2.has.grow h4.mod).grow g7;have D7:=h4.has.grow g7;refine ⟨_,rfl,ah (λ_=>vZ G7) (λr=>?_)⟩;obtain ⟨b3,U,c7⟩:=hf (by simpa using r);refine ⟨_,_,_,jq D7,(Ef _ _ _ _).mono ?_⟩;rintro e d8 ⟨rfl,V⟩;have ap:=G7.trans V;refine ⟨_,rfl,ah (λ_=>vZ ap) (λr=>⟨_,ae (B7.grow V) rfl,ah (λ_=>vZ ap) (λr7=>?_)⟩)⟩;have ax:rN uni lrn=true:=by simpa using r
 have cm:k<=7:=by rw [decide_eq_false_iff_not] at r7;omega
 have e1:=h2.num;have e3:=h4.num;have z2:=h2.size;refine bD (D7.grow V) rfl rfl λaw an aT=>?_;have an:bT aw n3 #[.i (-1),.i uni,.i lrn]:=an;have a8:=(B7.grow V).keep aT (by omega);have bk:ak w aw:=ap.then aT λj hj e=>by omega
 refine ⟨_,_,_,_,bS a8,_,_,_,jq an,(Mr (hc.grow bk) hm b3 U cm ax).mono ?_⟩;rintro e b_ ⟨g0,P,gn,C,P2,bn,C2,E,rfl,bg,hP⟩;have b6:=bk.trans bg;refine ⟨_,_,_,_,_,_,_,_,rfl,λco dh av=>?_⟩;have dk:=av.num;refine bD av.has rfl rfl λbi aa b5=>?_;have aa:bT bi co #[.i g0,.slice P gn C]:=aa;have Q:ak b_ bi:=av.mod.then b5 λj hj e=>by omega
 have bv:=b6.trans Q;have a_:=(a8.grow bg).grow Q;have dd:0<=k:=(Ml U).1;obtain ⟨N,rfl⟩: ∃N:Nat,k=N:=⟨k.toNat,by omega⟩
 rw [tn] at hP;refine ⟨_,_,_,_,bS a_,(B_ (hc.grow bv) hm (by omega) (by omega)).mono ?_⟩;rintro e du ⟨ps,ns,dT,rs,rfl,X,I⟩;have az:=bv.trans I;have Z:=aa.grow I;refine ⟨_,_,_,_,rfl,?_⟩;rcases hP with ⟨_,⟨rfl,hs⟩,rfl,rfl⟩| ⟨rfl,rfl,pr,t,ks,ht,cg,ei,rfl,rfl,hv,b4,bf,bY⟩
 . exact bP (X.2 hs) (bP rfl ⟨_,_,_,ae Z rfl,bP rfl (bP rfl (vZ az))⟩)
 have cc:rs=false:=by
  cases rs with
  |false=>rfl
  |true=>exact absurd (X.1 rfl) cg
 have l1:=E_ (cs:=cs) (al:=pr.map ik) (t:=t);have b7:((gG (lQ cs (pr.map ik) t)).map (xo cs)).length<=40:=by rw [UL,e_];omega
 have hL:=sj U;have J:=I_ (cs:=cs) (al:=pr.map ik) (t:=t);have Y:fG (vO (pr.map ik) (gG (iP cs (pr.map ik) t)))=true:=by
  unfold fG;rw [UK];intro s hs;unfold vO at hs;obtain ⟨y,hy,rfl⟩:=L0.1 hs;obtain ⟨j,hj,rfl⟩:=L0.1 hy;have:=(qD.1 hj).1;have h1:=ht.1;refine fV bY (xH (pr.map ik) (j:Int)) (pD ?_);rw [tn];omega
 refine bA cc ⟨_,_,_,_,bS Z,(B_ (N:=N) (hv.grow (Q.trans I)) rfl (by omega) (by omega)).mono ?_⟩;rintro e d' ⟨d9,eb,eg,b9,rfl,ar,O⟩;have bc:b9=false:=by
  rw [<- U5];intro e;obtain ⟨mo,_,hh⟩:=ar.1 e;refine Ir (S_ λc ac=>hL c (J.subset ac)) (λs hs x hx=>?_) (Oi _) (Jp hh) (PS bf).1;exact qL ((cy (fV Y s hs)).1 x hx)
 have a':=az.trans O;have bu:=Z.grow O;refine ⟨_,_,_,_,rfl,bA rfl (bA bc ⟨_,_,_,ae bu rfl,_,_,_,ae ((a_.grow I).grow O) rfl,(PN ((hv.grow (Q.trans I)).grow O) rfl (hc.grow a') hm J (by omega)).mono ?_⟩)⟩;rintro e dq ⟨rfl,ag⟩;have ay:=a'.trans ag;have bb:=((Q.trans I).trans O).trans ag;refine ⟨_,rfl,bA rfl (ah (λ_=>vZ ay) (λcb=>⟨_,_,_,_,bS (bu.grow ag),(Dp (k:=(N:Int)) (hv.grow bb) rfl b7 (b4.grow bb) rfl (by rw [decide_eq_false_iff_not] at cb;omega) (λc ac=>DA U c (J.subset ac)) Y).mono ?_⟩))⟩;rintro e ec ⟨r,rfl,hr,b8⟩;exact ⟨_,rfl,bP (hr.2 (G_ bf)) (vZ (ay.trans b8))⟩
theorem we (v0 v1:Value) (W:World) (I:J_ W (.cons (.int .i64) (.cons (.sl (.sl (.int .i64))) .nil)) v0) (h1:J_ W (.cons (.int .i64) (.cons (.int .i64) (.cons (.int .i64) .nil))) v1):Calls Tryz.prog cF.id #[v0,v1] W λe J=>e=.returned (.bool true)/\ak W J:=by
 obtain ⟨k,q,j,d,hs,cs,rfl,O,U,Q⟩:=Fs I;obtain ⟨a,b,c,rfl⟩:=Jk h1;exact um Q O
end Go.Proofs.YtbdghpjnifjlmaaGreat.W
