/- Layer 37: the statement CertifyGraphs. -/
import Derived.Test.YtbdghpjnifjlmaaGreatCountA
import Derived.Test.YtbdghpjnifjlmaaGreatRankA
set_option linter.all false
namespace Go.Proofs.YtbdghpjnifjlmaaGreat.W
open Go Go.Fw Go.RowKit Go.TsP Go.SoP Go.LiP Go.LeP Rk
open Go.Proofs.Tryz (prog)
variable{g:List (Int × Int)}{cs:lq}
def B6(k:Nat)(i:Nat):Bool:=k / 2 ^ i % 2==1
def yC(n k:Nat):List Bool:=(List.range n).map (B6 k)
theorem sD(n k:Nat):(yC n k).length=n:=by simp[yC]
theorem CH:∀l:List Bool,∃k,k<2 ^ l.length/\yC l.length k=l
 | []=>⟨0,by simp,rfl⟩
 |b::l=>by
  obtain⟨k,J,e⟩:=CH l;have key:∀r:Nat,r<2->yC (b::l).length (2*k+r)=(decide (r=1))::l:=by
   intro r hr;unfold yC at e ⊢;rw[Wz,List.range_succ_eq_map,Xj,XW];have e0:B6 (2*k+r) 0=decide (r=1):=by
    unfold B6;rw[Nat.pow_zero,Nat.div_one,show (2*k+r) % 2=r by omega];rfl
   have I:(B6 (2*k+r) ∘ Nat.succ)=B6 k:=by
    funext i;show B6 (2*k+r) (i+1)=_;unfold B6;rw[YY,YN (2 ^ i) 2,<- Nat.div_div_eq_div_mul,show (2*k+r) / 2=k by omega]
   rw[e0,I,e]
  rw[Wz];cases b with
  |true=>exact⟨2*k+1,by rw[YY];omega,key 1 (by decide)⟩
  |false=>exact⟨2*k,by rw[YY];omega,key 0 (by decide)⟩
theorem SX{k i:Nat}(hi:i<64):((((k:Int).fdiv (2 ^ (min (IntKind.u64.wrap (i:Int)).toNat (IntKind.bits .i64)))).tmod (2:Int))==(1:Int))=B6 k i:=by
 have h1:IntKind.u64.wrap (i:Int)=i:=by
  unfold IntKind.wrap;simp[IntKind.signed,IntKind.bits];omega
 rw[h1,tn,show min i (IntKind.bits .i64)=i by show min i 64=i;omega];have I:((k:Int).fdiv (2 ^ i))=((k / 2 ^ i:Nat):Int):=by
  rw[XL _ (by exact_mod_cast xc (2 ^ i))]
  norm_cast
 rw[I,XM (Zm _)];unfold B6;generalize k / 2 ^ i=m;rw[W4,J8,J8];omega
theorem Qy:NX:=by
 intro w q m d hs U hm;obtain⟨K,ok,X,V⟩:=RG (N:=3) (by decide);refine(FT (N:=3) (b:= -1) U hm (by decide) (by decide) rfl (by decide) ok X (by rw[V];decide)).mono ?_;rintro e w'⟨⟨dO,mp,mn,mc,pp,Y,pc,cf,de,re,dr,Z,rfl,_,_,_,_,h⟩,g⟩;rcases h with⟨_,_,_,_,h,_⟩| ⟨_,_,_,_,mo,_,_,_,hl,I,J⟩| ⟨rfl,rfl,rfl,_,_,pr,rfl,O,_,_,Q,hu⟩
 .exact absurd h (by decide)
 .exfalso;obtain⟨a,b,c,rfl⟩: ∃a b c,mo= [a,b,c]:=by
   match mo,hl with
   | [a,b,c],_=>exact⟨a,b,c,rfl⟩
  have J:=uK.2 J;rcases I a (by simp) with rfl|rfl<;>rcases I b (by simp) with rfl|rfl<;>rcases I c (by simp) with rfl|rfl<;>exact absurd J (by decide)
 .exact ⟨_,_,_,_,pr,_,_,_,_,rfl,hu G8,O,Q,g⟩
theorem wO{W w:World}(g:ak W w):Calls prog 9 #[] w λe w'=>∃r:Bool,e=.returned (.bool r)/\(Ending.returned (Value.bool r)=.returned (.bool true)/\ak W w'):=MZ Qy g
theorem K6{w:World}{q:sn}{m d N:Nat}{hs:List Sl}{C:lq}(hc:V2 sT w q hs C)(hm:m=C.length)(I:c5 N C=true)(hN:N<=12)(hl:C.length<=100):
 Calls prog 12 #[.agg #[.i N,.slice q m d],.agg #[.i (-1),.i 64,.i 200]] w λe v=>∃ (dO:Int) (mp:sn) (Q mc:Nat) (X:sn) (U pc:Nat) (cf:Int),e=.returned (.tuple #[.agg #[.i dO,.slice mp Q mc,.slice X U pc,.i cf],.i 0])/\ak w v/\
  ((dO=1/\∃mo,Vw sT v mp mo/\Q=mo.length/\TQ N mo/\ij mo C=true)\/(dO=2/\∀v,Rg N v->¬∀d∈C,BP v d)):=by
 obtain⟨K,ok,hK,hT⟩:=RG (N:=N) hN;refine(vZ (A:=λ_ _ _ _ _=>False) (B:=λdO mo _ _=> (dO=1/\TQ N mo/\ij mo C=true)\/(dO=2/\∀v,Rg N v->¬∀d∈C,BP v d)) hc hm λx gx=> (FT (N:=N) (b:= -1) (hc.grow gx) hm I (by decide) rfl (by omega) ok hK (by omega)).mono ?_).mono ?_
 .rintro e y ⟨⟨dO,mp,Q,mc,X,U,pc,cf,de,re,dr,er,rfl,_,_,_,_,h⟩,Z⟩;refine⟨_,_,_,_,_,_,_,_,_,_,_,_,rfl,Z,?_⟩;rcases h with⟨_,_,_,_,h,_⟩| ⟨rfl,rfl,rfl,_,mo,rfl,hv,hf,hl,an,O⟩| ⟨rfl,rfl,rfl,_,Y,pr,rfl,V,J,aw,ac,_⟩
  .exact absurd h (by decide)
  .have O:=uK.2 O;refine .inr ⟨rfl,mo,[],hv,.inr hf,rfl,by unfold maxLen;omega,⟨λj hj=>by simp at hj,λu hu=>by simp at hu,λh=>absurd rfl h,λu hu=>by simp at hu⟩,λu hu=>by simp at hu,rfl,xc _,by omega,(zP ⟨I,rfl,by decide,by decide⟩ (.inl ⟨rfl,by omega,O⟩)).symm,.inl ⟨rfl,⟨hl,an⟩,O⟩⟩
  .refine .inr ⟨rfl,[],pr,Vw.nil,.inl rfl,rfl,xc _,V,λu hu=>?_,rfl,ac,by omega,(zP ⟨I,J.TK (by omega),by decide,by decide⟩ (.inr ⟨rfl,J.pv.1⟩)).symm,.inr ⟨rfl,Y⟩⟩;have:=(J.tI (kQ u) (WA hu)).len;have:u.2.2.length<=N:=this;unfold maxLen;omega
 .rintro e y ⟨dO,mp,Q,mc,X,U,pc,cf,er,rfl,Z,⟨_,h⟩| ⟨rfl,mo,pr,hv,_,aa,_,_,_,_,_,_,_,hb⟩⟩
  .exact h.elim
  refine⟨_,_,_,_,_,_,_,_,rfl,Z,?_⟩;rcases hb with⟨rfl,hp,O⟩|hb
  .exact .inl ⟨rfl,mo,hv,aa,hp,O⟩
  .exact .inr hb
theorem Ea{w:World}{p q:sn}{n c m d:Nat}{hs:List Sl}(hn:n=g.length)(hg:g.length<=12)(hm:m=cs.length)(hx:cs.length<=12)(h:Vr 2 nB w p g)(hc:V2 sT w q hs cs):
 Calls prog 20 #[.slice p n c,.slice q m d,.agg #[.i (-1),.i 64,.i 200]] w λe v=>∃ (P:sn) (pn pc:Nat) (op er:Int),e=.returned (.tuple #[.slice P pn pc,.i op,.i er])/\ak w v/\
  ((gq g cs=false/\er=1/\op=0/\pn=0)\/(gq g cs=true/\er=0/\((op=1/\∃ins:List Bool,pn=ins.length/\ins.length=dC g g.length/\Vw Value.bool v P ins/\ik g cs ins=true)\/(op=2/\pn=0/\∀ins,ik g cs ins=false)))):=by
 refine jU.aj ?_;intro n1 w2 h2;refine(LP hn (by omega) hm (by omega) (h.grow h2.mod) (hc.grow h2.mod)).mono ?_;rintro e w3⟨hb,g3⟩;have G3:=h2.mod.trans g3;have S3:=h2.has.grow g3;rcases hb with⟨hf,rfl⟩| ⟨ht,pc,cc,pv,cv,rfl,C⟩
 .refine ⟨_,_,_,_,_,_,_,_,rfl,λn8 w9 V=>aX V.has rfl rfl λU _ Z=>bJ (by decide) ⟨_,_,_,_,_,rfl,(G3.trans V.mod).then Z λj hj e=>?_,.inl ⟨hf,rfl,rfl,rfl⟩⟩⟩;have:=V.num;have:=G3.size;omega
 refine⟨_,_,_,_,_,_,_,_,rfl,λn8 w9 V=>aX V.has rfl rfl λU I Z=>bq rfl ?_⟩;have e8:=V.num;have e1:=h2.num;have z3:=G3.size;have I:bO U n8 #[.i (tK g cs),.slice pc (tC g cs).length cc,.slice pv (tV g cs).length cv]:=I;have ac:ak w3 U:=V.mod.then Z λj hj e=>by omega
 have bk:=G3.trans ac;have aw:=C.grow ac;have a8:(tV g cs).length=g.length:=DQ _ _;have cg:=TsP.sO (dK g cs) g.length;have ar:=rB ht;have Q:c5 (tK g cs) (tC g cs)=true:=Jz ht (by omega) (by omega);have ce:(tC g cs).length<=48:=by
  refine Wl (vN _ _) ?_;unfold zO;rw[I'];have:=Dx g (dK g cs) g.length;omega
 obtain⟨N,hN⟩: ∃N,N=eY (dK g cs) g.length:=⟨_,rfl⟩
 have hK:tK g cs=N:=by rw[hN]
 rw[hK]at I Q;obtain⟨b6,V1⟩:=aw.c;refine⟨_,_,_,_,by rw[cA];exact⟨ae I rfl,ae I rfl,trivial⟩,_,_,_,gG (S3.grow ac),(K6 V1 rfl Q (by omega) (by omega)).mono ?_⟩;rintro e a_⟨dO,mp,mn,mc,pp,pn,bf,cf,rfl,av,hP⟩;refine⟨_,_,_,_,_,_,_,_,_,rfl,λn22 cm ag=>aX ag.has rfl rfl λO J a'=>bq rfl ?_⟩;have cr:=ag.num;have J:bO O n22 #[.i dO,.slice mp mn mc,.slice pp pn bf,.i cf]:=J;have aa:ak a_ O:=ag.mod.then a' λj hj e=>by omega
 have X:=(bk.trans av).trans aa;refine⟨_,ae J rfl,?_⟩;rcases hP with⟨rfl,mo,hv,rfl,hp,hh⟩| ⟨rfl,hu⟩
 .have ax:=av.trans aa;have b':=hp.len;refine bq rfl ⟨_,_,_,_,_,_,_,gG (I.grow ax),_,_,_,ae J rfl,(NL hn (by omega) (h.grow X) (aw.grow ax).v rfl (hv.grow aa) rfl (by unfold maxLen;omega)).mono ?_⟩;rintro e cp⟨⟨_,_,po,co,rfl,OI⟩| ⟨bg,_⟩,a6⟩
  rotate_left
  .exact absurd ⟨ar,a8⟩ bg
  have Y:=X.trans a6;have ha:=((Rx ht (by omega) (by rw[<- hN];exact hp.len) hp.pm).1 hh).1;have bi:(uL g (tV g cs) mo g.length).length=dC g g.length:=qe _ _ _ _;have b8:=pe g g.length;refine⟨_,_,_,rfl,(Ib hn (by omega) (h.grow Y) (hc.grow Y) hm (by unfold maxLen;omega) OI.vw rfl (by unfold maxLen;omega) (.inr ht)).mono ?_⟩;rintro e b_⟨rfl,ay⟩;have a7:(iT g && ik g cs (uL g (tV g cs) mo g.length))=true:=by rw[ar,ha];rfl
  rw[a7];exact⟨_,rfl,bq rfl ⟨_,_,_,_,_,rfl,Y.trans ay,.inr ⟨ht,rfl,.inl ⟨rfl,_,rfl,bi,OI.vw.grow ay,ha⟩⟩⟩⟩
 .refine bJ rfl ⟨_,ae (J.grow (rN O)) rfl,_,_,_,_,_,rfl,X.trans (rN O),.inr ⟨ht,rfl,.inr ⟨rfl,rfl,λins=>?_⟩⟩⟩;rw[<- WI];intro bb;obtain⟨m,m1,m2,m3⟩:=O5 ht (by omega) bb;have:=NS (by omega) hu (m:=m) ⟨by rw[hN];exact m1,m2⟩;have m3:ij m (tC g cs)=true:=m3;rw[m3]at this;cases this
theorem tQ{W:World}{p q:sn}{c d:Nat}{hs:List Sl}(h:Vr 2 nB W p g)(hc:V2 sT W q hs cs)(b4:g.length<=maxLen)(hx:cs.length<=maxLen):
 Calls prog 6 #[.slice p g.length c,.slice q cs.length d] W λe W'=>e=.returned (.bool true)/\ak W W':=by
 unfold maxLen at hx b4;refine cx.aj ?_;refine ah (λ_=>wO (aE.refl _)) (λr=>ah (λ_=>wO (aE.refl _)) (λr2=>?_));have hg:g.length<=12:=by simp only[x8]at r;omega
 have ce:cs.length<=12:=by simp only[x8]at r2;omega
 refine⟨λi u z=>∃t:Nat,i=t/\t<=cs.length/\u=W/\z+t=cs.length,⟨_,0,rfl,xc _,rfl,rfl⟩,?_⟩;rintro i w9 z _⟨t,rfl,aT,e9,hz⟩;have e9:=e9.symm;subst e9;refine ah (λs=>?_) (λ_=>?_)
 .have X:t<cs.length:=by simp only[x7]at s;omega
  refine hc.ix (by omega) rfl (by omega) λa sl e _ _ _ _=>⟨_,_,_,e,ah (λ_=>wO (aE.refl _)) (λ_=>⟨z - 1,by omega,t+1,by rw[ao (by omega) (by omega)];omega,X,rfl,by omega⟩)⟩
 clear hz aT;refine(zM _).mono ?_;rintro e ei⟨rfl,an⟩;refine⟨_,_,_,rfl,(Ea rfl hg rfl ce (h.grow an) (hc.grow an)).mono ?_⟩;rintro e dk⟨P,pn,pc,op,er,rfl,b3,hP⟩;have ag:=an.trans b3;refine⟨_,_,_,_,_,rfl,(HA (h.grow ag) rfl (by omega) (hc.grow ag) rfl (by omega)).mono ?_⟩;rintro e U⟨rfl,aw⟩;have Q:=ag.trans aw;refine⟨_,rfl,?_⟩;rcases hP with⟨hf,rfl,rfl,rfl⟩| ⟨ht,rfl,hP⟩
 .rw [hf];exact bJ rfl (bJ rfl (bJ rfl (bJ rfl (wO Q))))
 rw[ht];have bg:=rB ht;refine bq rfl ⟨λn i u z=>∃t:Nat,n=dC g t/\i=t/\t<=g.length/\u=U/\z+t=g.length,⟨_,0,rfl,rfl,xc _,rfl,rfl⟩,?_⟩;rintro n i eg z2 _⟨I,rfl,rfl,aT,aa,hz⟩;have aa:=aa.symm;subst aa;refine ah (λs=>?_) (λs=>?_)<;>simp only[x7,x8]at s
 .have X:I<g.length:=by omega
  have ev:IntKind.i64.wrap ((I:Int)+1)=((I+1:Nat):Int):=by rw[ao (by omega) (by omega)];omega
  have d5:=pe g I;have ec:IntKind.i64.wrap ((dC g I:Int)+1)=((dC g I+1:Nat):Int):=by rw[ao (by omega) (by omega)];omega
  have J:=je g I;rw[ev,ec];refine QY (h.grow Q) rfl X λa x0 _=>⟨_,x0,ah (λs4=>?_) (λs4=>?_)⟩<;>simp only[x7,x8]at s4
  .rw [v8 s4]at J;exact⟨z2 - 1,by omega,I+1,by rw[J],rfl,X,rfl,by omega⟩
  .rw [r8 s4]at J;exact⟨z2 - 1,by omega,I+1,by rw[J];rfl,rfl,X,rfl,by omega⟩
 have e:I=g.length:=by omega
 subst e;obtain⟨n,hn⟩: ∃n,n=dC g g.length:=⟨_,rfl⟩
 have bk:n<=12:=by have:=pe g g.length;omega
 rw[<- hn]at hP ⊢;have dc:2 ^ n<=4096:=Wl (WM (by omega) bk) (by decide);have a8:IntKind.i64.wrap ((1:Int)*2 ^ (min ((n:Int)).toNat (IntKind.bits .i64)))=((2 ^ n:Nat):Int):=by
  rw[tn,show min n (IntKind.bits .i64)=n by show min n 64=n;omega,Int.one_mul,ao]
  .norm_cast
  .have:(0:Int)<=((2 ^ n:Nat):Int):=Zm _;have e:((2 ^ n:Nat):Int)=(2:Int) ^ n:=by norm_cast
   omega
  .have e:((2 ^ n:Nat):Int)=(2:Int) ^ n:=by norm_cast
   omega
 have b6:∀ {u:World},ak U u->(∀j,j<2 ^ n->ik g cs (yC n j)=false)->aD ((0:Int)==0) (aD (op==(2:Int)) (aD ((pn:Int)==(0:Int)) (Calls prog 9 #[] u λe cp=>∃ay,e=.returned (.bool ay)/\(Ending.returned (Value.bool ay)=.returned (.bool true)/\ak W cp)) (Ending.returned (Value.bool false)=.returned (.bool true)/\ak W u)) (Ending.returned (Value.bool false)=.returned (.bool true)/\ak W u)) (Ending.returned (Value.bool false)=.returned (.bool true)/\ak W u):=by
  intro u gu ap;rcases hP with⟨_,ins,_,a6,_,ha⟩| ⟨rfl,rfl,_⟩
  .exfalso;obtain⟨k,hk,e⟩:=CH ins;rw[a6]at hk e;have:=ap k hk;rw[e,ha]at this;cases this
  .exact bJ rfl (bJ rfl (bJ rfl (wO (Q.trans gu))))
 have bb:∀ {u:World},ak U u->(∃ins,ins.length=n/\ik g cs ins=true)->aD ((0:Int)==0) (aD (op==(1:Int)) (Calls prog 23 #[.slice p g.length c,.slice q cs.length d,.slice P pn pc] u λe ar=>∃ax,e=.returned (.bool ax)/\aD ax (Calls prog 9 #[] ar λe b8=>∃bi,e=.returned (.bool bi)/\(Ending.returned (Value.bool bi)=.returned (.bool true)/\ak W b8)) (Ending.returned (Value.bool false)=.returned (.bool true)/\ak W ar)) (Ending.returned (Value.bool false)=.returned (.bool true)/\ak W u)) (Ending.returned (Value.bool false)=.returned (.bool true)/\ak W u):=by
  rintro u gu⟨ins,_,a'⟩;have Gu:=Q.trans gu;rcases hP with⟨rfl,c4,rfl,a6,hv,ha⟩| ⟨_,_,ap⟩
  .refine bJ rfl (bJ rfl ((xO rfl (by omega) rfl (by unfold maxLen;omega) rfl (by unfold maxLen;omega) bg (Ek ht) (h.grow Gu) (hc.grow Gu) ((hv.grow aw).grow gu)).mono ?_));rintro e ar⟨rfl,b_⟩;exact⟨_,rfl,bJ ha (wO (Gu.trans b_))⟩
  .rw [ap ins]at a';cases a'
 refine⟨λsm k u z=>∃t:Nat,k=t/\t<=2 ^ n/\ak U u/\((sm=true/\∃ins,ins.length=n/\ik g cs ins=true)\/(sm=false/\∀j,j<t->ik g cs (yC n j)=false))/\z+t=2 ^ n,⟨_,0,rfl,xc _,aE.refl _,.inr ⟨rfl,λj Z=>by omega⟩,rfl⟩,?_⟩;rintro sm k d8 z2 _⟨t,rfl,ek,V,bf,d6⟩;refine⟨by omega,?_⟩;rw[a8];refine ah (λs2=>?_) (λs2=>?_)<;>simp only[x7,x8]at s2
 .rcases bf with⟨rfl,hi⟩| ⟨rfl,hi⟩
  .exact bq rfl (bq rfl (bb V hi))
  refine bJ rfl ?_;intro b' b9 ac;have dh:=ac.num;have dA:=V.size;have az:BA bA b9 (some ⟨b',0,none⟩) 0 []:=Ow.da ac.at (vy _) (xc _) rfl rfl;refine⟨λpo no co iv u z=>∃I:Nat,no=I/\iv=I/\I<=n/\BA bA u po co (yC I t)/\(∀j,aF po=some j->U.heap.size<=j)/\ak U u/\z+I=n,⟨_,0,rfl,rfl,xc _,az,λj Z=>by have:=aO Z;omega,V.trans ac.mod,rfl⟩,?_⟩;clear az;rintro po no co iv dp z3 _⟨I,rfl,rfl,dT,O,fr,Y,dd⟩;refine ah (λs3=>?_) (λs3=>?_)<;>simp only[x7,x8]at s3
  .have u0:0<=IntKind.u64.wrap (no:Int):=by
    have h1:IntKind.u64.wrap (no:Int)=no:=by
     unfold IntKind.wrap;simp[IntKind.signed,IntKind.bits];omega
    omega
   rw[SX (by omega)];refine⟨u0,by decide,?_⟩;intro d' d7 av;have ev:IntKind.i64.wrap ((no:Int)+1)=((no+1:Nat):Int):=by rw[ao (by omega) (by omega)];omega
   rw[ev];have J:yC (no+1) t=yC no t++ [B6 t no]:=by simp[yC,Xh]
   have a7:=Y.trans av.mod;refine(O.grow av.mod).jS rH _ av.has rfl (sD no t).symm Em (by rw[sD];omega) λel ea dq cm bY hp d4=>⟨z3 - 1,by omega,no+1,by rw[sD],rfl,by omega,by rw[J];exact cm,λj Z=>?_,a7.then bY λj Z e=>by have:=fr j e;omega,by omega⟩
   rcases hp with h1|h1<;>rw[h1]at Z
   .exact fr j Z
   .have:=aO Z;have:=a7.size;omega
  .have e:no=n:=by omega
   subst e;refine(xO rfl (by omega) rfl (by unfold maxLen;omega) (sD no t).symm (by unfold maxLen;omega) bg (Ek ht) (h.grow (Q.trans Y)) (hc.grow (Q.trans Y)) O.vw).mono ?_;rintro e ej⟨rfl,cg⟩;have ev:IntKind.i64.wrap ((t:Int)+1)=((t+1:Nat):Int):=by rw[ao (by omega) (by omega)];omega
   rw[ev];refine⟨_,rfl,z2 - 1,by omega,t+1,rfl,by omega,Y.trans cg,?_,by omega⟩;cases ha:ik g cs (yC no t) with
   |true=>exact .inl ⟨rfl,_,sD no t,ha⟩
   |false=>
    refine .inr ⟨rfl,λj Z=>?_⟩;by_cases e:j<t
    .exact hi j e
    .have:j=t:=by omega
     subst this;exact ha
 .have e:t=2 ^ n:=by omega
  subst e;rcases bf with⟨rfl,hi⟩| ⟨rfl,hi⟩
  .exact bq rfl (bb V hi)
  .exact bJ rfl (b6 V hi)
theorem vj(v0 v1:Value)(W:World)(O:O' W (.sl (.cons (.int .i64) (.cons (.int .i64) .nil))) v0)(h1:O' W (.sl (.sl (.int .i64))) v1):Calls prog 6 #[v0,v1] W λe U=>e=.returned (.bool true)/\ak W U:=by
 obtain⟨p,n,c,g,rfl,rfl,hn,V⟩:=E4 O;obtain⟨q,m,d,hs,cs,rfl,rfl,J,I,Q⟩:=HH (λv=>Gl) h1;exact tQ V Q hn (Wl J I)
