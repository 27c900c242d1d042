/- Layer 14: counting models, plain. -/
import Derived.Test.YtbdghpjnifjlmaaGreatSolveA
import Derived.Test.YtbdghpjnifjlmaaGreatSortA
import Derived.Test.YtbdghpjnifjlmaaGreatPfA
import Derived.Test.YtbdghpjnifjlmaaGreatRupD
import Derived.Test.YtbdghpjnifjlmaaGreatRupC
set_option linter.all false
namespace Go.Proofs.YtbdghpjnifjlmaaGreat.W
open Go Go.Fw Go.RowKit Go.SoP Go.LiP
open Go.Proofs.Tryz (prog)
section
open Go.LeP
variable{N:Nat}{cs:lq}{m m':List Int}{ms:lq}
structure TQ(N:Nat)(m:List Int):Prop where
 len:m.length=N
 pm:∀y∈m,y=1\/y= -1
theorem TQ.at_(h:TQ N m){i:Nat}(hi:i<N):m.getD i 0=1\/m.getD i 0= -1:=h.pm _ (by have:=h.len;simp[List.getD,show i<m.length by omega])
theorem uK:ij m cs=true↔∀c∈cs,∃l∈c,jF m l=1:=by
 unfold ij;rw[K'];constructor
 .intro h c I;have:=h c I;rw[Xk]at this;obtain⟨l,hl,e⟩:=this;exact⟨l,hl,by simpa using e⟩
 .intro h c I;obtain⟨l,hl,e⟩:=h c I;rw[Xk];exact⟨l,hl,by simpa using e⟩
theorem KL(l:Int):cC (-l)=cC l:=by
 unfold cC;refine decide_eq_decide.2 ?_;omega
theorem Sm(hN:N<=1048576)(h:TQ N m):Rg N (jF m):=by
 have J:∀l,cC l=false->jF m l=0:=λl hl=>by unfold jF;rw[v8 (.inl hl)]
 refine⟨λl=>?_,λl=>?_,λl hl=>?_⟩
 .cases hl:cC l with
  |true=>exact Ng hl
  |false=>rw[J _ hl,J _ (by rw[KL];exact hl)];rfl
 .unfold jF;split
  .exact .inl rfl
  .split
   .exact .inl rfl
   .split
    .exact .inr (.inl rfl)
    .exact .inr (.inr rfl)
 .have I:=zp hN hl;have ha:=hl.bo;have hlen:=h.len;unfold jF;rw[r8 (by rw[I];simp;omega)];have:=h.at_ (i:=(bo l - 1).toNat) (by omega);rw[r8 (by omega)];split<;>decide
theorem NS(hN:N<=1048576)(h:∀v,Rg N v->¬∀d∈cs,BP v d)(hm:TQ N m):ij m cs=false:=by
 cases e:ij m cs with
 |false=>rfl
 |true=>exact absurd (uK.1 e) (h _ (Sm hN hm))
end
section
open Go.LeP
variable{N:Nat}
theorem QC{a D v:Nat}(h:D<=QuP.quo a v / 10+1):∀w,v+1<=w->D<=QuP.quo a w - PotP.qp (QuP.quo a) w:=by
 intro w O;obtain⟨m,rfl⟩: ∃m,w=m+1:=⟨w - 1,by omega⟩
 have h1:=QuP.Al a v m (by omega);have I:QuP.quo a (m+1)=QuP.quo a m+QuP.quo a m / 10+1:=rfl;have J:PotP.qp (QuP.quo a) (m+1)=QuP.quo a m:=rfl;omega
theorem Rp(a:Nat):∀d w,PotP.MA (QuP.quo a) d w+7*QuP.quo a w<=7*QuP.quo a (w+d)
 |0,w=>by simp[PotP.MA]
 |d+1,w=>by
  have J:=Rp a d (w+1);have I:QuP.quo a (w+1)=QuP.quo a w+QuP.quo a w / 10+1:=rfl;rw[show w+ (d+1)=w+1+d by omega];simp only[PotP.MA];omega
theorem J2(a b:Nat)(h:a<b):∃v,b<=QuP.quo a v/\QuP.quo a v<=b+b / 10:=by
 have key:∀n,b<=QuP.quo a n->∃v,b<=QuP.quo a v/\QuP.quo a v<=b+b / 10:=by
  intro n
  induction n with
  |zero=>intro e;have:QuP.quo a 0=a:=rfl;omega
  |succ n ih=>
   intro e;by_cases J:b<=QuP.quo a n
   .exact ih J
   .refine ⟨n+1,e,?_⟩;have I:QuP.quo a (n+1)=QuP.quo a n+QuP.quo a n / 10+1:=rfl;omega
 have up:∀n,n<=QuP.quo a n:=by
  intro n
  induction n with
  |zero=>exact xc _
  |succ n ih=>
   have I:QuP.quo a (n+1)=QuP.quo a n+QuP.quo a n / 10+1:=rfl;omega
 exact key b (up b)
theorem RG(hN:N<=12):∃K,TP K N 200/\(64:Int)=K.u/\K.T=115000:=by
 have I:2 ^ (N - 2)<=1024:=Wl (WM (by omega) (by omega:N - 2<=10)) (by decide);obtain⟨v,v1,v2⟩:=J2 200 10230 (by decide);refine⟨⟨1024,v+1,28672,64,115000⟩,⟨⟨by show 1<=64;omega,by show 64<=1048576;omega⟩,by decide,I,λb l h1 J=>?_,λw O=>?_,?_,?_⟩,rfl,rfl⟩
 .exact PotP.Tl.ex (L:=4096) (u:=64) (k:=6) (by decide) h1 J
 .show 1024<=QuP.quo 200 w - PotP.qp (QuP.quo 200) w;exact QC (by omega) w O
 .show 115001<QuP.quo 200 100;decide+kernel
 .unfold KP.qd;show (if 0<v+1 then QuP.quo 200 0+ (2*N+2)+PotP.MA (QuP.quo 200) (v+1 - 1) 0+ (5*1024+28672) else 28672)<=115000;rw[v8 (by omega),Xy];have:=Rp 200 v 0;rw[Wr]at this;omega
end
section
open Go.LeP
variable{N i T:Nat}{cs:lq}{pr:List (Bool × List Int)}{k:Int}{c:List Int}
theorem Cb{z:Bool × List Int}:xX z↔z=(false,[]):=by
 obtain⟨a,b⟩:=z;unfold xX;simp
theorem GF.len(h:GF N c):c.length<=N:=by
 have O:(c.map bo).Nodup:=by
  unfold List.Nodup;rw[X2];refine XX (λ{a b} ha hb I e=>?_) h.nd;have h1:=h.nt a ha;unfold bo at e;have:b=a\/b= -a:=by split at e<;>split at e<;>omega
  rcases this with J|J
  .exact I J.symm
  .rw [J]at hb;exact h1 hb
 have hs:=WR O (l₂:=(List.range N).map λj:Nat=> (j:Int)+1) λy U=>by
  obtain⟨x,Q,rfl⟩:=LV.1 U;have:=(h.tI x Q).bo;exact LV.2 ⟨(bo x - 1).toNat,Wv.2 (by omega),by show (((bo x - 1).toNat:Nat):Int)+1=_;omega⟩
 simpa using hs
theorem GF.cl(h:GF N c)(hN:N<=4096):jL c=true:=by
 unfold jL;simp only[ts,x7,K'];exact⟨λl hl=>zp (n:=N) (by omega) (h.tI l hl),Wl h.len hN⟩
theorem PE.TK(h:PE cs N pr)(hN:N<=4096):ig pr=true:=by
 unfold ig;rw[K'];exactλz I=> (h.tI z I).cl hN
end
section
variable{W w w' w1 w2 u:World}{p q p1 p2:sn}{n m d n1 n2 d1 d2:Nat}{k dO cf:Int}{hs:List Sl}{cs:lq}{mo:List Int}{al:List jJ}
noncomputable def KF(k:Int)(cs:lq)(dO:Int)(mo:List Int)(al:List jJ):Int:=if c5 k cs=true/\ig al=true/\0<=dO/\dO<=2 then (if (dO=1/\(mo.length:Int)=k/\ij mo cs=true)\/(dO=2/\(Bz cs al).2=0) then 0 else 7) else 1
theorem Er(h: ¬(c5 k cs=true/\ig al=true/\0<=dO/\dO<=2)):1=KF k cs dO mo al:=by unfold KF;rw[r8 h]
theorem zP(h:c5 k cs=true/\ig al=true/\0<=dO/\dO<=2)(I:(dO=1/\(mo.length:Int)=k/\ij mo cs=true)\/(dO=2/\(Bz cs al).2=0)):0=KF k cs dO mo al:=by unfold KF;rw[v8 h,v8 I]
theorem zq(h:c5 k cs=true/\ig al=true/\0<=dO/\dO<=2)(I: ¬((dO=1/\(mo.length:Int)=k/\ij mo cs=true)\/(dO=2/\(Bz cs al).2=0))):7=KF k cs dO mo al:=by unfold KF;rw[v8 h,r8 I]
theorem DG(hc:V2 sT w p hs cs)(hn:n=cs.length)(v1:Vw sT w p1 mo)(ay:n1=mo.length)(ax:n1<=maxLen)(hl:SV w p2 al)(ag:n2=al.length)(hB:cs.length+n2<262144):
 Calls prog 10 #[.agg #[.i k,.slice p n d],.agg #[.i dO,.slice p1 n1 d1,.slice p2 n2 d2,.i cf]] w λe w'=>e=.returned (.i (KF k cs dO mo al))/\ak w w':=by
 refine j7.aj ?_;intro nf w2 h2 nc w4 h4;have G4:=h2.mod.trans h4.mod;have X:=h2.has.grow h4.mod;have bc:=h4.has;have R:∀ {u:World} {r:Int},ak w u->r=KF k cs dO mo al->Ending.returned (Value.int .i64 r)=.returned (.i (KF k cs dO mo al))/\ak w u:=λg e=>⟨by rw[e],g⟩
 refine⟨_,_,_,_,cI X,(eP (hc.grow G4) hn).mono ?_⟩;rintro e w7⟨rfl,g7⟩;have G7:=G4.trans g7;refine⟨_,rfl,?_⟩;cases J:c5 k cs with
 |false=>exact bJ rfl (R G7 (Er λh=>by rw[J]at h;cases h.1))
 |true=>
 refine bq rfl ⟨_,_,_,ae (bc.grow g7) rfl,(jQ (hl.grow G7) ag (by omega)).mono ?_⟩;rintro e a7⟨rfl,Q⟩;have I:=G7.trans Q;refine⟨_,rfl,?_⟩;cases O:ig al with
 |false=>exact bJ rfl (R I (Er λh=>by rw[O]at h;cases h.2.1))
 |true=>
 have b:=bc.grow (g7.trans Q);have X:=X.grow (g7.trans Q);refine bq rfl ⟨_,ae b rfl,ah (λr=>R I (Er λh=>?_)) (λr=>⟨_,ae b rfl,ah (λr2=>R I (Er λh=>?_)) (λr2=>⟨_,ae b rfl,ah (λU=>?_) (λU=>?_)⟩)⟩)⟩
 .rw [x7]at r;omega
 .rw [x7]at r2;omega
 .rw [x8]at r r2;have hv:c5 k cs=true/\ig al=true/\0<=dO/\dO<=2:=⟨J,O,by omega,by omega⟩
  have U:dO=1:=by simpa using U
  refine⟨_,_,_,ae b rfl,_,ae X rfl,ah (λY=>R I (zq hv ?_)) (λY=>⟨_,_,_,_,cI X,_,_,_,ae b rfl,(Fo (hc.grow I) hn (v1.grow I) ay ax).mono ?_⟩)⟩
  .have Y:(n1:Int)≠k:=by simpa using Y
   rintro(⟨_,h,_⟩| ⟨h,_⟩)<;>omega
  .have Y:(n1:Int)=k:=by simpa using Y
   rintro e a8⟨rfl,Z⟩;refine⟨_,rfl,?_⟩;rw[J,W2];cases hh:ij mo cs with
   |false=>exact bJ rfl (R (I.trans Z) (zq hv (λh=>h.elim (λh=> (by have h:=h.2.2;rw[hh]at h;cases h)) λh=> (by omega))))
   |true=>exact bq rfl (R (I.trans Z) (zP hv (.inl ⟨U,by omega,hh⟩)))
 .rw [x8]at r r2;have hv:c5 k cs=true/\ig al=true/\0<=dO/\dO<=2:=⟨J,O,by omega,by omega⟩
  have U:dO≠1:=by simpa using U
  refine ah (λV=>⟨_,_,_,_,cI X,_,_,_,ae b rfl,(B7 (hc.grow I) hn hB (hl.grow I) ag).mono ?_⟩) (λV=>R I (zq hv ?_))
  .have V:dO=2:=by simpa using V
   rintro e a'⟨rfl,ac⟩;rw[J,O];refine⟨_,_,rfl,ah (λr6=>R (I.trans ac) (zq hv ?_)) (λr6=>R (I.trans ac) (zP hv (.inr ⟨V,?_⟩)))⟩
   .have r6:(Bz cs al).2≠0:=by simpa using r6
    rintro(⟨h,_⟩| ⟨_,h⟩)
    .omega
    .exact r6 h
   .simpa using r6
  .have V:dO≠2:=by simpa using V
   rintro(⟨h,_⟩| ⟨h,_⟩)<;>omega
theorem vZ{b yV lrn:Int}{A:Int->Nat->Nat->Int->Int->Prop}{B:Int->List Int->List Ps->Int->Prop}(hc:V2 sT w p hs cs)(hn:n=cs.length)
 (hS:∀u,ak w u->Calls prog 32 #[.agg #[.i k,.slice p n d],.agg #[.i b,.i yV,.i lrn]] u λe v=>∃ (dO:Int) (mp:sn) (J mc:Nat) (U:sn) (I pc:Nat) (cf de re dr er:Int),e=.returned (.tuple #[.agg #[.i dO,.slice mp J mc,.slice U I pc,.i cf,.i de,.i re,.i dr],.i er])/\ak u v/\
   ((er≠0/\A dO J I cf er)\/(er=0/\∃mo pr,Vw sT v mp mo/\(mo= []\/∀j,aF mp=some j->u.heap.size<=j)/\J=mo.length/\J<=maxLen/\HZ u.heap.size v U pr/\(∀u∈pr,u.2.2.length<=maxLen)/\I=pr.length/\I<=pc/\cs.length+I<262144/\KF k cs dO mo (pr.map kQ)=0/\B dO mo pr cf))):
 Calls prog 12 #[.agg #[.i k,.slice p n d],.agg #[.i b,.i yV,.i lrn]] w λe v=>∃ (dO:Int) (mp:sn) (J mc:Nat) (U:sn) (I pc:Nat) (cf er:Int),e=.returned (.tuple #[.agg #[.i dO,.slice mp J mc,.slice U I pc,.i cf],.i er])/\ak w v/\
  ((er≠0/\A dO J I cf er)\/(er=0/\∃mo pr,Vw sT v mp mo/\(mo= []\/∀j,aF mp=some j->w.heap.size<=j)/\J=mo.length/\J<=maxLen/\HZ w.heap.size v U pr/\(∀u∈pr,u.2.2.length<=maxLen)/\I=pr.length/\I<=pc/\cs.length+I<262144/\KF k cs dO mo (pr.map kQ)=0/\B dO mo pr cf)):=by
 refine gB.aj ?_;intro nf w2 h2 ns w4 h4 nr w6 h6;have d6:=h6.num;have z2:=h2.mod.size;have z4:=h4.mod.size;have z6:=h6.mod.size;have G6:=(h2.mod.trans h4.mod).trans h6.mod;have bf:=(h2.has.grow h4.mod).grow h6.mod;have bs:=h4.has.grow h6.mod;have br:=h6.has;refine⟨_,_,_,_,cI bf,_,_,_,gG bs,(hS w6 G6).mono ?_⟩;rintro e b3⟨dO,mp,J,mc,U,I,pc,cf,de,re,dr,er,rfl,ap,hP⟩;refine⟨_,_,_,_,_,_,_,_,_,_,_,_,rfl,λn21 du bu=>?_⟩;have dp:=bu.num;have d8:=ap.size;refine aX bu.has rfl rfl λb9 Y c2=>?_;have Y:bO b9 n21 #[.i dO,.slice mp J mc,.slice U I pc,.i cf,.i de,.i re,.i dr]:=Y;have cg:ak b3 b9:=bu.mod.then c2 λj X e=>by omega
 refine⟨_,ae Y rfl,_,_,_,ae Y rfl,_,_,_,ae Y rfl,_,ae Y rfl,λn28 dk bk=>?_⟩;have dA:=bk.num;have d7:=cg.size;refine aX bk.has rfl rfl λar V cr=>?_;have V:bO ar n28 #[.i dO,.slice mp J mc,.slice U I pc,.i cf]:=V;have Q:ak b3 ar:=cg.trans (bk.mod.then cr λj X e=>by omega);have bn:=(G6.trans ap).trans Q;have dT:=(ap.trans Q).size;have ir:=br.lt;have eh:∀ {v:World} {K:Value->World->Prop},ak ar v->(∀v',aE (·=nr) v v'->K (.agg #[.i dO,.slice mp J mc,.slice U I pc,.i cf]) v')->∃b' aT a7 a' bi a8 ay b4,aM v (qw n28) 0 [.i b',.slice aT a7 a',.slice bi a8 ay,.i b4]/\
  ∃Z,bD (qw nr) 0 [.i b',.slice aT a7 a',.slice bi a8 ay,.i b4] v Z/\
  ∃b8 az a_ a6 bb ax bg cm,aM Z (qw nr) 0 [.i b8,.slice az a_ a6,.slice bb ax bg,.i cm]/\
  K (.agg #[.i b8,.slice az a_ a6,.slice bb ax bg,.i cm]) Z:=by
  intro v K gv hK;have b:=V.grow gv;refine⟨_,_,_,_,_,_,_,_,⟨ae b rfl,ae b rfl,ae b rfl,ae b rfl,trivial⟩,aX (br.grow ((ap.trans Q).trans gv)) rfl rfl λZ aa c1=>?_⟩;have aa:bO Z nr #[.i dO,.slice mp J mc,.slice U I pc,.i cf]:=aa;exact⟨_,_,_,_,_,_,_,_,⟨ae aa rfl,ae aa rfl,ae aa rfl,ae aa rfl,trivial⟩,hK Z c1⟩
 rcases hP with⟨cb,hA⟩| ⟨rfl,mo,pr,hv,hf,b6,b_,hl,b5,ce,c3,hB,hR,hb⟩
 .refine bJ (by simpa using cb) (eh (K:=λx v=>∃ (dO:Int) (mp:sn) (J mc:Nat) (U:sn) (I pc:Nat) (cf O:Int),Ending.returned (.tuple #[x,.i er])=.returned (.tuple #[.agg #[.i dO,.slice mp J mc,.slice U I pc,.i cf],.i O])/\ak w v/\
   ((O≠0/\A dO J I cf O)\/(O=0/\∃mo pr,Vw sT v mp mo/\(mo= []\/∀j,aF mp=some j->w.heap.size<=j)/\J=mo.length/\J<=maxLen/\HZ w.heap.size v U pr/\(∀u∈pr,u.2.2.length<=maxLen)/\I=pr.length/\I<=pc/\cs.length+I<262144/\KF k cs dO mo (pr.map kQ)=0/\B dO mo pr cf))) (aE.refl _) λv' m=>?_)
  exact⟨_,_,_,_,_,_,_,_,_,rfl,bn.then m λj X e=>by omega,.inl ⟨cb,hA⟩⟩
 .have gk:ak w6 ar:=ap.trans Q;refine bq rfl ⟨_,_,_,_,cI (bf.grow gk),_,_,_,_,_,_,_,_,⟨ae V rfl,ae V rfl,ae V rfl,ae V rfl,trivial⟩,(DG (hc.grow bn) hn (hv.grow Q) b6 b_ ((hl.sv b5).grow Q) (by rw[We];exact ce) hB).mono ?_⟩;rintro e d5⟨rfl,av⟩;rw[hR];refine⟨_,rfl,bq rfl (eh (K:=λx v=>∃ (dO:Int) (mp:sn) (J mc:Nat) (U:sn) (I pc:Nat) (cf O:Int),Ending.returned (.tuple #[x,.i 0])=.returned (.tuple #[.agg #[.i dO,.slice mp J mc,.slice U I pc,.i cf],.i O])/\ak w v/\
   ((O≠0/\A dO J I cf O)\/(O=0/\∃mo pr,Vw sT v mp mo/\(mo= []\/∀j,aF mp=some j->w.heap.size<=j)/\J=mo.length/\J<=maxLen/\HZ w.heap.size v U pr/\(∀u∈pr,u.2.2.length<=maxLen)/\I=pr.length/\I<=pc/\cs.length+I<262144/\KF k cs dO mo (pr.map kQ)=0/\B dO mo pr cf))) av λv' m=>?_)⟩
  have gv:ak w v':=(bn.trans av).then m λj X e=>by omega
  have an:∀j,w6.heap.size<=j->w.heap.size<=j/\j≠nr:=λj X=>by omega
  have hv':Vw sT v' mp mo:=by
   rcases hf with rfl|hf
   .exact Vw.nil
   .exact ((hv.grow Q).grow av).keep m λj X=> (an j (hf j X)).2
  have aw:=((hl.grow Q).grow av).keep m λj X=> (an j X).2;exact⟨_,_,_,_,_,_,_,_,_,rfl,gv,.inr ⟨rfl,mo,pr,hv',hf.imp id λh j X=> (an j (h j X)).1,b6,b_,⟨aw.v,aw.r,λe j X=> (an j (aw.f e j X)).1,λu hu j X=> (an j (aw.g u hu j X)).1⟩,b5,ce,c3,hB,hR,hb⟩⟩
end
section
open Go.LeP
variable{w w' w1 w2 u u':World}{N n14:Nat}{cs:lq}{mo:List Int}{ms:lq}{hs':List Sl}{gp:sn}{gc:Nat}
theorem zM(w:World):Calls prog 21 #[] w λe w'=>e=.returned (.agg #[.i (-1),.i 64,.i 200])/\ak w w':=by
 refine oZ.aj ?_;intro n1 w2 J;refine aX J.has rfl rfl λw3 I m3=>?_;have I:bO w3 n1 #[.i (-1),.i 64,.i 200]:=I;exact⟨_,_,_,⟨ae I rfl,ae I rfl,ae I rfl,trivial⟩,rfl,aE.cE J.mod m3 (by have:=J.num;omega)⟩
end
section
variable{W w w' w1 w2 u:World}{p q p1 p2:sn}{n m d n1 n2 d1 d2:Nat}{k dO cf:Int}{hs:List Sl}{cs:lq}{mo:List Int}{al:List jJ}
theorem Gg{b yV lrn:Int}{A:Int->Prop}{B:List Ps->Prop}(hc:V2 sT w p hs cs)(hn:n=cs.length)(hx:cs.length<=40)(bg:c5 k cs=true)
 (hS:∀u,ak w u->Calls prog 12 #[.agg #[.i k,.slice p n d],.agg #[.i b,.i yV,.i lrn]] u λe v=>∃ (dO:Int) (mp:sn) (mn mc:Nat) (pp:sn) (pn pc:Nat) (cf er:Int),e=.returned (.tuple #[.agg #[.i dO,.slice mp mn mc,.slice pp pn pc,.i cf],.i er])/\ak u v/\
   ((er≠0/\A er)\/(er=0/\dO≠2/\A 4)\/(er=0/\dO=2/\∃pr:List Ps,HZ u.heap.size v pp pr/\pn=pr.length/\pn<=pc/\pn<=20000/\(∀x∈pr,x.2.2.length<=40)/\ig (pr.map kQ)=true/\zr cs (pr.map kQ)/\B pr))):
 Calls prog 17 #[.agg #[.i k,.slice p n d],.agg #[.i b,.i yV,.i lrn]] w λe v=>∃ (g0:Int) (P:sn) (gn C:Nat) (P2:sn) (bn C2:Nat) (E:Int),e=.returned (.tuple #[.agg #[.i g0,.slice P gn C],.slice P2 bn C2,.i E])/\ak w v/\
  ((E≠0/\A E/\gn=0/\bn=0)\/(E=0/\g0=k/\∃ (pr:List Ps) (t:Nat) (ks:List Sl),pE (pr.map kQ) t/\B pr/\(∀i,i<=t->((pr.map kQ).getD i dH).1=true\/uB ((iY cs (pr.map kQ) i).map (·.1)) ((pr.map kQ).getD i dH).2)/\
    gn=((kc (q7 cs (pr.map kQ) t)).map (EA cs)).length/\bn=(Jb (pr.map kQ) (kc (ju cs (pr.map kQ) t))).length/\V2 sT v P ks ((kc (q7 cs (pr.map kQ) t)).map (EA cs))/\SV v P2 (Jb (pr.map kQ) (kc (ju cs (pr.map kQ) t)))/\
    Cf cs (pr.map kQ) (kc (q7 cs (pr.map kQ) t)) (kc (ju cs (pr.map kQ) t))/\ig (pr.map kQ)=true)):=by
 refine jv.aj ?_;intro nf w2 h2 ns w4 h4 nr w6 h6;have ew:=h6.num;have z2:=h2.mod.size;have z4:=h4.mod.size;have z6:=h6.mod.size;have G6:=(h2.mod.trans h4.mod).trans h6.mod;have bf:=(h2.has.grow h4.mod).grow h6.mod;have bs:=h4.has.grow h6.mod;have br:=h6.has;have ir:=br.lt;refine⟨_,_,_,_,cI bf,_,_,_,gG bs,(hS w6 G6).mono ?_⟩;rintro e dq⟨dO,mp,mn,mc,pp,pn,pc,cf,er,rfl,bY,hP⟩;refine⟨_,_,_,_,_,_,_,_,_,rfl,λdu ep an=>?_⟩;have ez:=an.num;have ey:=bY.size;refine aX an.has rfl rfl λax O dp=>?_;have O:bO ax du #[.i dO,.slice mp mn mc,.slice pp pn pc,.i cf]:=O;have bb:ak dq ax:=an.mod.then dp λj V e=>by omega
 have I:=bY.trans bb;have ag:=G6.trans I;have np:∀ {E:Int},E≠0->A E->∃Q,bD (qw nr) 0 [.i 0,.slice none 0 0] ax Q/\
  ∃b4 Z Y aa,aM Q (qw nr) 0 [.i b4,.slice Z Y aa]/\
  ∃ (g0:Int) (P:sn) (gn C:Nat) (P2:sn) (bn C2:Nat) (E':Int),Ending.returned (.tuple #[.agg #[.i b4,.slice Z Y aa],.slice none 0 0,.i E])=.returned (.tuple #[.agg #[.i g0,.slice P gn C],.slice P2 bn C2,.i E'])/\ak w Q/\
    ((E'≠0/\A E'/\gn=0/\bn=0)\/(E'=0/\g0=k/\∃ (pr:List Ps) (t:Nat) (ks:List Sl),pE (pr.map kQ) t/\B pr/\(∀i,i<=t->((pr.map kQ).getD i dH).1=true\/uB ((iY cs (pr.map kQ) i).map (·.1)) ((pr.map kQ).getD i dH).2)/\
      gn=((kc (q7 cs (pr.map kQ) t)).map (EA cs)).length/\bn=(Jb (pr.map kQ) (kc (ju cs (pr.map kQ) t))).length/\V2 sT Q P ks ((kc (q7 cs (pr.map kQ) t)).map (EA cs))/\SV Q P2 (Jb (pr.map kQ) (kc (ju cs (pr.map kQ) t)))/\
      Cf cs (pr.map kQ) (kc (q7 cs (pr.map kQ) t)) (kc (ju cs (pr.map kQ) t))/\ig (pr.map kQ)=true)):=by
  intro E h0 hA;refine aX (br.grow I) rfl rfl λQ c7 ce=>⟨_,_,_,_,cI c7,_,_,_,_,_,_,_,_,rfl,ag.then ce λj V e=>by omega,.inl ⟨h0,hA,rfl,rfl⟩⟩
 rcases hP with⟨X,hA⟩| ⟨rfl,X,hA⟩| ⟨rfl,rfl,pr,hl,dh,d5,bk,bu,aw,cp,hB⟩
 .exact bJ (by simpa using X) (np X hA)
 .exact bq rfl ⟨_,ae O rfl,bJ (by simpa using X) (np (by decide) hA)⟩
 have cr:∀u∈pr,u.2.2.length<=maxLen:=λu hu=>by have:=bu u hu;unfold maxLen;omega
 have bi:=(hl.sv cr).grow bb;have bx:∀x∈pr.map kQ,x.2.length<=40:=λx hx=>by
  obtain⟨u,hu,rfl⟩:=LV.1 hx;exact bu u hu
 have b3:pn=(pr.map kQ).length:=by rw[We];exact dh
 refine bq rfl ⟨_,ae O rfl,bq rfl ⟨_,_,_,_,cI (bf.grow I),_,_,_,ae O rfl,(Qx (hc.grow ag) hn hx bi b3 bk bx d5).mono ?_⟩⟩;rintro e dT⟨p1,p2,c1,c2,E,A1,B1,rfl,hR,o1,o2,cg⟩;obtain⟨t,ht,b5,rfl,rfl,rfl⟩: ∃t,pE (pr.map kQ) t/\(∀i,i<=t->((pr.map kQ).getD i dH).1=true\/uB ((iY cs (pr.map kQ) i).map (·.1)) ((pr.map kQ).getD i dH).2)/\E=0/\A1=q7 cs (pr.map kQ) t/\B1=ju cs (pr.map kQ) t:=by
  rcases hR with⟨h,_⟩| ⟨_,h,_⟩| ⟨_,h⟩
  .exact absurd ⟨bg,aw⟩ h
  .exact absurd cp h
  .exact h
 have c4:=ht.1;rw[We]at c4;obtain⟨b',b6⟩:=Nu (k:=k) bg aw ht b5;refine⟨_,_,_,_,_,_,_,rfl,λeg eb U=>?_⟩;have en:=U.num;refine aX U.has rfl rfl λdB dk ar=>?_;have c0:ak dT dB:=U.mod.then ar λj V e=>by omega
 have J:=cg.trans c0;have cT:=ag.trans J;have i1:=o1.lt;have i2:=o2.lt;have v1:=((o1.grow U.mod).keep ar λj V e=>by have:=i1 j V;omega).vw;have v2:=((o2.grow U.mod).keep ar λj V e=>by have:=i2 j V;omega).vw;have l1:=Mj (cs:=cs) (al:=pr.map kQ) (t:=t);have l2:=Nf (cs:=cs) (al:=pr.map kQ) (t:=t);have l3:(ju cs (pr.map kQ) t).length<=20000:=by omega
 refine bq rfl ⟨_,_,_,_,cI (bf.grow (I.trans J)),_,_,_,ae (O.grow J) rfl,_,_,_,_,_,_,cI dk,(Qm (k:=k) (hc.grow cT) hn hx (bi.grow J) b3 bk v1 (fX _).symm (by omega) v2 (fX _).symm l3).mono ?_⟩;rintro e ef⟨g0,P,C,P2,C2,E',ks,rows,bl,rfl,cb,hv,d4,d8,ap⟩;obtain rfl:E'=0:=cb.HY (.inr (.inr ⟨b',b6,rfl⟩));obtain⟨rfl,rfl,rfl⟩:=ap rfl;have a_:=(I.trans J).trans d4;refine⟨_,_,_,_,_,_,_,_,rfl,aX (br.grow a_) rfl rfl λd' cm ay=>⟨_,_,_,_,cI cm,_,_,_,_,_,_,_,_,rfl,(G6.trans a_).then ay λj V e=>by omega,.inr ⟨rfl,rfl,pr,t,ks,ht,hB,b5,rfl,rfl,?_,?_,b6,aw⟩⟩⟩;all_goals have ej:=(I.trans J).size
 .exact (hv _ _ ay λj V=>by omega).1
 .exact (hv _ _ ay λj V=>by omega).2
def NX:Prop:=∀ {w:World} {q:sn} {m d:Nat} {hs:List Sl},V2 sT w q hs F8->m=F8.length->
 Calls prog 32 #[.agg #[.i 3,.slice q m d],.agg #[.i (-1),.i 64,.i 200]] w λe w'=>∃ (mp:sn) (J:Nat) (I:sn) (pc:Nat) (pr:List Ps) (cf de re dr:Int),e=.returned (.tuple #[.agg #[.i 2,.slice mp 0 J,.slice I pr.length pc,.i cf,.i de,.i re,.i dr],.i 0])/\pr.map kQ= [(false,[])]/\HZ w.heap.size w' I pr/\pr.length<=pc/\ak w w'
theorem It(H0:NX):Calls prog 9 #[] w λe w'=>e=.returned (.bool true)/\ak w w':=by
 refine cG.aj ?_;intro n1 w2 h2 n3 w4 h4 n5 w6 h6 n7 w8 h8 n9 J ni ce dd ar;have dp:=ar.num;have cb:ak w J:=(((h2.mod.trans h4.mod).trans h6.mod).trans h8.mod).trans ni.mod;refine aX ar.has rfl rfl λO av b8=>?_;have av:bO O ce #[.i 3,.slice (some ⟨n9,0,none⟩) 4 4]:=av;have aT:ak J O:=ar.mod.then b8 λj hj e=>by omega
 have v1:Vw sT J (some ⟨n1,0,none⟩) [1,2]:=AD ((((h2.has.grow h4.mod).grow h6.mod).grow h8.mod).grow ni.mod) rfl;have v3:Vw sT J (some ⟨n3,0,none⟩) [-1,2]:=AD (((h4.has.grow h6.mod).grow h8.mod).grow ni.mod) rfl;have v5:Vw sT J (some ⟨n5,0,none⟩) [-2]:=AD ((h6.has.grow h8.mod).grow ni.mod) rfl;have v7:Vw sT J (some ⟨n7,0,none⟩) [3]:=AD (h8.has.grow ni.mod) rfl;have V:V2 sT J (some ⟨n9,0,none⟩) [⟨some ⟨n1,0,none⟩,2,2⟩,⟨some ⟨n3,0,none⟩,2,2⟩,⟨some ⟨n5,0,none⟩,1,1⟩,⟨some ⟨n7,0,none⟩,1,1⟩] F8:=by
  refine⟨AD ni.has rfl,rfl,λj hj=>?_⟩
  match j,hj with
  |0,_=>exact⟨rfl,by show 2<=maxLen;decide,v1⟩
  |1,_=>exact⟨rfl,by show 2<=maxLen;decide,v3⟩
  |2,_=>exact⟨rfl,by show 1<=maxLen;decide,v5⟩
  |3,_=>exact⟨rfl,by show 1<=maxLen;decide,v7⟩
  |j+4,h=>exact absurd h (by unfold F8;simp)
 have gd:=rN O;have bg:c5 3 F8=true:=by decide
 have core:∀ {v:World},ak O v->Calls prog 17 #[.agg #[.i 3,.slice (some ⟨n9,0,none⟩) 4 4],.agg #[.i (-1),.i 64,.i 200]] v λe v'=>∃ (g0:Int) (P:sn) (C:Nat) (P2:sn) (Z C2:Nat),e=.returned (.tuple #[.agg #[.i g0,.slice P 3 C],.slice P2 Z C2,.i 0])/\0<Z/\ak v v':=by
  intro v gv;have Vv:=V.grow (aT.trans gv);refine(Gg (A:=λ_=>False) (B:=λpr=>pr.map kQ=P9) Vv rfl (by decide) bg λu gu=> (vZ (A:=λ_ _ _ _ _=>False) (B:=λdO _ pr _=>dO=2/\pr.map kQ=P9) (Vv.grow gu) rfl λx gx=> (H0 ((Vv.grow gu).grow gx) rfl).mono ?_).mono ?_).mono ?_
  .rintro e y ⟨mp,mc,pp,pc,pr,cf,de,re,dr,rfl,xW,an,ax,gy⟩;have h1:pr.length=1:=by have:=congrArg List.length xW;simpa using this
   refine⟨_,_,_,_,_,_,_,_,_,_,_,_,rfl,gy,.inr ⟨rfl,[],pr,Vw.nil,.inl rfl,rfl,xc _,an,λu hu=>?_,rfl,ax,?_,?_,rfl,xW⟩⟩
   .have:=WA (f:=kQ) hu;rw[xW,xv]at this;have h2:u.2.2= []:=congrArg Prod.snd this;rw[h2];exact xc _
   .rw [h1];decide
   .rw [xW];exact(zP ⟨bg,by decide,by decide,by decide⟩ (.inr ⟨rfl,by
     rw[Bz,r8 (by unfold lZ;rw[v8 (.inr (.inl G8))];decide),v8 ⟨rfl,rfl⟩]⟩)).symm
  .rintro e y ⟨dO,mp,mn,mc,pp,pn,pc,cf,er,rfl,gy,⟨_,h⟩| ⟨rfl,mo,pr,_,_,_,_,an,_,cg,ax,_,_,rfl,xW⟩⟩
   .exact h.elim
   have h1:pr.length=1:=by have:=congrArg List.length xW;simpa[P9]using this
   refine⟨_,_,_,_,_,_,_,_,_,rfl,gy,.inr (.inr ⟨rfl,rfl,pr,an,cg,ax,by omega,λu hu=>?_,by rw[xW];decide,by rw[xW];exact⟨0,UG,Sj⟩,xW⟩)⟩;have:=WA (f:=kQ) hu;rw[xW]at this;have this:=xv.1 this;have h2:u.2.2= []:=congrArg Prod.snd this;rw[h2];decide
  .rintro e y ⟨g0,P,gn,C,P2,Z,C2,E,rfl,gy,⟨_,h,_⟩| ⟨rfl,_,pr,t,ks,ht,xW,_,aw,bb,_⟩⟩
   .exact h.elim
   rw[xW]at ht aw bb;obtain rfl:=ht.HY UG;rw[We,fX,LZ]at aw;subst aw;refine⟨_,_,_,_,_,_,rfl,?_,gy⟩;rw[bb];unfold Jb;rw[We,fX];exact Xq (Fp (cs:=F8) (al:=P9) (t:=0))
 have eh:∀ {v:World} {nn Z:Nat} {g0:Int} {P:sn} {C:Nat},ak w v->0<Z->bO v nn #[.i g0,.slice P 3 C]->∃a' ac bx,v.cell? ((qw nn).add 1)=some (.slice a' ac bx)/\
  aD ((ac:Int)==(3:Int)) (Ending.returned (Value.bool (decide ((Z:Int)> (0:Int))))=.returned (.bool true)/\ak w v) (Ending.returned (Value.bool false)=.returned (.bool true)/\ak w v):=
  λg hb h=>⟨_,_,_,ae h rfl,bJ rfl ⟨by rw[I4 (by omega)],g⟩⟩
 have Q:=cb.trans aT;refine⟨ak O,gd,_,_,_,_,λv g=>cI (av.grow g),⟨(zM _).mono ?_,?_⟩⟩
 .rintro e b4 ⟨rfl,I⟩;have I:=gd.trans I;refine⟨_,_,_,rfl,I,(core I).mono ?_,λdu b' U=>?_⟩
  .rintro e d5 ⟨g0,P,C,P2,Z,C2,rfl,hb,bf⟩;refine⟨_,_,_,_,_,_,_,_,rfl,λn26 ef X=>?_⟩;have dT:=X.num;have cT:=(I.trans bf).trans X.mod;refine⟨cT,aX X.has rfl rfl λec b6 b9=>bJ rfl (eh ((Q.trans (I.trans bf)).trans (X.mod.then b9 λj hj e=>by omega)) hb b6)⟩
  .have a7:=I.trans U.mod;have dc:=U.num;refine⟨a7,(core a7).mono ?_⟩;rintro e d6⟨g0,P,C,P2,Z,C2,rfl,hb,a6⟩;have dh:=(Q.trans I).size;have zw:b4.heap.size<b'.heap.size:=by have:=U.has.lt;omega
   refine⟨_,_,_,_,_,_,_,_,rfl,aX (U.has.grow a6) rfl rfl λd7 cr co=>bJ rfl (eh (((Q.trans I).trans (U.mod.trans a6)).then co λj hj e=>?_) hb cr)⟩;omega
 .intro ed dq ap;have d8:=ap.num;have aa:=gd.trans ap.mod;refine⟨aa,(zM _).mono ?_⟩;rintro e d9⟨rfl,Y⟩;refine⟨_,_,_,rfl,aa.trans Y,(core (aa.trans Y)).mono ?_⟩;rintro e c7⟨g0,P,C,P2,Z,C2,rfl,hb,a_⟩;have dA:=(Q.trans gd).size;refine⟨_,_,_,_,_,_,_,_,rfl,aX (ap.has.grow (Y.trans a_)) rfl rfl λeb b5 b_=>bJ rfl (eh ((Q.trans ((aa.trans Y).trans a_)).then b_ λj hj e=>?_) hb b5)⟩;omega
theorem MZ(I:NX)(g:ak W w):Calls prog 9 #[] w λe w'=>∃r:Bool,e=.returned (.bool r)/\(Ending.returned (Value.bool r)=.returned (.bool true)/\ak W w'):=by
 refine(It I).mono ?_;rintro e w'⟨rfl,J⟩;exact⟨true,rfl,rfl,g.trans J⟩
end
section
open Go.LeP
variable{w w' w1 w2 u:World}{N m d:Nat}{cs:lq}{hs:List Sl}{q p:sn}{k:Int}{n c:Nat}{pr:List (Bool × List Int)}
theorem PE.pv(h:PE cs N pr):(Bz cs pr).2=0/\0<=(Bz cs pr).1/\(Bz cs pr).1<pr.length:=by
 obtain⟨t,ht,he,hn⟩:=h.eh;have st:∀i,i<pr.length->lZ (BI cs pr i) (pr.getD i dH)=0/\sB (BI cs pr i) (pr.getD i dH)=BI cs pr (i+1):=by
  intro i hi;have hu:=h.up i hi;have e:BI cs pr (i+1)=if (pr.getD i dH).1=true then tU (pr.getD i dH).2 (BI cs pr i) else BI cs pr i++ [(pr.getD i dH).2]:=rfl
  rw[e];cases J:(pr.getD i dH).1 with
  |true=>
   have:=Fh (k:=0) (cs:=BI cs pr i) J;exact⟨this.1,this.2.1⟩
  |false=>
   have:=EY (k:=0) (cs:=BI cs pr i) J (.inl (hu.resolve_left (by show ¬(pr.getD i dH).1=true;rw[J];decide)));exact⟨this.1,this.2.1⟩
 have O:∀i,i<=t->BL cs pr i (BI cs pr i):=by
  intro i
  induction i with
  |zero=>exactλ_=>BL.zero cs pr
  |succ i ih=>
   intro hi;have h1:=(ih (by omega)).next (by omega) (st i (by omega)).1 λe=>hn i (by omega) (Cb.1 e)
   rwa [(st i (by omega)).2]at h1
 have I:=(O t (vy _)).eh (by omega) (st t (by omega)).1 (Cb.2 he);rw[I];exact⟨rfl,by show (0:Int)<=t;omega,by show (t:Int)<pr.length;omega⟩
end
