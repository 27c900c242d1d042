/- Layer 37: cores, walked; the small formula's core. -/
import Derived.Test.YtbdghpjnifjlmaaGreatCountA
import Derived.Test.YtbdghpjnifjlmaaGreatLitB
import Derived.Test.YtbdghpjnifjlmaaGreatRupC
set_option linter.unusedVariables false
namespace Go.Proofs.YtbdghpjnifjlmaaGreat.W
open Go Go.Fw Go.RowKit Go.SoP Go.LiP
open Go.Proofs.Tryz (prog)
section
variable {W w w' w1 w2 u:World} {p q p1 p2:sn} {n m d n1 n2 d1 d2:Nat} {k dU cf:Int} {hs:List Sl} {cs:List (List Int)} {mo:List Int} {al:List jb}
theorem xy {b uni lrn:Int} {A:Int->Prop} {B:List Ps->Prop} (hc:V2 sT w p hs cs) (hn:n=cs.length) (hx:cs.length<=40) (bv:cQ k cs=true)
 (hS:∀u,ak w u->Calls prog iU.id #[.agg #[.i k,.slice p n d],.agg #[.i b,.i uni,.i lrn]] u λe v=>∃ (dU:Int) (mp:sn) (mn mc:Nat) (pp:sn) (pn pc:Nat) (cf er:Int),e=.returned (.tuple #[.agg #[.i dU,.slice mp mn mc,.slice pp pn pc,.i cf],.i er])/\ak u v/\
   ((er≠0/\A er)\/(er=0/\dU≠2/\A 4)\/(er=0/\dU=2/\∃pr:List Ps,Gl u.heap.size v pp pr/\pn=pr.length/\pn<=pc/\pn<=20000/\(∀x∈pr,x.2.2.length<=40)/\fG (pr.map ik)=true/\rG cs (pr.map ik)/\B pr))):
 Calls prog iv.id #[.agg #[.i k,.slice p n d],.agg #[.i b,.i uni,.i lrn]] w λe v=>∃ (g0:Int) (P:sn) (gn C:Nat) (P2:sn) (bn C2:Nat) (E:Int),e=.returned (.tuple #[.agg #[.i g0,.slice P gn C],.slice P2 bn C2,.i E])/\ak w v/\
  ((E≠0/\A E/\gn=0/\bn=0)\/(E=0/\g0=k/\∃ (pr:List Ps) (t:Nat) (ks:List Sl),lX (pr.map ik) t/\B pr/\(∀i,i<=t->((pr.map ik).getD i cS).1=true\/uB ((eI cs (pr.map ik) i).map (·.1)) ((pr.map ik).getD i cS).2)/\
    gn=((gG (lQ cs (pr.map ik) t)).map (xo cs)).length/\bn=(vO (pr.map ik) (gG (iP cs (pr.map ik) t))).length/\V2 sT v P ks ((gG (lQ cs (pr.map ik) t)).map (xo cs))/\SV v P2 (vO (pr.map ik) (gG (iP cs (pr.map ik) t)))/\
    ve cs (pr.map ik) (gG (lQ cs (pr.map ik) t)) (gG (iP cs (pr.map ik) t))/\fG (pr.map ik)=true)):=by
 refine iv.aj ?_;intro nf w2 h2 ns w4 h4 nr w6 h6;have ei:=h6.num;have z2:=h2.mod.size;have z4:=h4.mod.size;have z6:=h6.mod.size;have G6:=(h2.mod.trans h4.mod).trans h6.mod;have bf:=(h2.has.grow h4.mod).grow h6.mod;have bs:=h4.has.grow h6.mod;have br:=h6.has;have ir:=br.lt;refine ⟨_,_,_,_,bS bf,_,_,_,jq bs,(hS w6 G6).mono ?_⟩;rintro e ce ⟨dU,mp,mn,mc,pp,pn,pc,cf,er,rfl,bY,hP⟩;refine ⟨_,_,_,_,_,_,_,_,_,rfl,λb9 ep an=>?_⟩;have eb:=an.num;have ej:=bY.size;refine bD an.has rfl rfl λaz J c7=>?_;have J:bT az b9 #[.i dU,.slice mp mn mc,.slice pp pn pc,.i cf]:=J;have bb:ak ce az:=an.mod.then c7 λj V e=>by omega
 have Q:=bY.trans bb;have ap:=G6.trans Q;have pI:∀ {E:Int},E≠0->A E->∃I,bB (qw nr) 0 [.i 0,.slice none 0 0] az I/\
  ∃bu Z Y aa,aK I (qw nr) 0 [.i bu,.slice Z Y aa]/\
  ∃ (g0:Int) (P:sn) (gn C:Nat) (P2:sn) (bn C2:Nat) (E':Int),Ending.returned (.tuple #[.agg #[.i bu,.slice Z Y aa],.slice none 0 0,.i E])=.returned (.tuple #[.agg #[.i g0,.slice P gn C],.slice P2 bn C2,.i E'])/\ak w I/\
    ((E'≠0/\A E'/\gn=0/\bn=0)\/(E'=0/\g0=k/\∃ (pr:List Ps) (t:Nat) (ks:List Sl),lX (pr.map ik) t/\B pr/\(∀i,i<=t->((pr.map ik).getD i cS).1=true\/uB ((eI cs (pr.map ik) i).map (·.1)) ((pr.map ik).getD i cS).2)/\
      gn=((gG (lQ cs (pr.map ik) t)).map (xo cs)).length/\bn=(vO (pr.map ik) (gG (iP cs (pr.map ik) t))).length/\V2 sT I P ks ((gG (lQ cs (pr.map ik) t)).map (xo cs))/\SV I P2 (vO (pr.map ik) (gG (iP cs (pr.map ik) t)))/\
      ve cs (pr.map ik) (gG (lQ cs (pr.map ik) t)) (gG (iP cs (pr.map ik) t))/\fG (pr.map ik)=true)):=by
  intro E h0 hA;refine bD (br.grow Q) rfl rfl λI c0 dk=>⟨_,_,_,_,bS c0,_,_,_,_,_,_,_,_,rfl,ap.then dk λj V e=>by omega,.inl ⟨h0,hA,rfl,rfl⟩⟩
 rcases hP with ⟨X,hA⟩| ⟨rfl,X,hA⟩| ⟨rfl,rfl,pr,hl,cg,cc,b3,bg,ag,cb,hB⟩
 . exact bP (by simpa using X) (pI X hA)
 . exact bA rfl ⟨_,ae J rfl,bP (by simpa using X) (pI (by decide) hA)⟩
 have dT:∀u∈pr,u.2.2.length<=maxLen:=λu hu=>by have:=bg u hu;unfold maxLen;omega
 have bi:=(hl.sv dT).grow bb;have a': ∀x∈pr.map ik,x.2.length<=40:=λx hx=>by
  obtain ⟨u,hu,rfl⟩:=L0.1 hx;exact bg u hu
 have a_:pn=(pr.map ik).length:=by rw [UL];exact cg
 refine bA rfl ⟨_,ae J rfl,bA rfl ⟨_,_,_,_,bS (bf.grow Q),_,_,_,ae J rfl,(Pz (hc.grow ap) hn hx bi a_ b3 a' cc).mono ?_⟩⟩;rintro e cT ⟨p1,p2,c1,c2,E,A1,B1,rfl,hR,o1,o2,dp⟩;obtain ⟨t,ht,b4,rfl,rfl,rfl⟩: ∃t,lX (pr.map ik) t/\(∀i,i<=t->((pr.map ik).getD i cS).1=true\/uB ((eI cs (pr.map ik) i).map (·.1)) ((pr.map ik).getD i cS).2)/\E=0/\A1=lQ cs (pr.map ik) t/\B1=iP cs (pr.map ik) t:=by
  rcases hR with ⟨h,_⟩| ⟨_,h,_⟩| ⟨_,h⟩
  . exact absurd ⟨bv,ag⟩ h
  . exact absurd cb h
  . exact h
 have d4:=ht.1;rw [UL] at d4;obtain ⟨dc,bk⟩:=Nj (k:=k) bv ag ht b4;refine ⟨_,_,_,_,_,_,_,rfl,λet eA U=>?_⟩;have ef:=U.num;refine bD U.has rfl rfl λcm dd ay=>?_;have d5:ak cT cm:=U.mod.then ay λj V e=>by omega
 have O:=dp.trans d5;have dh:=ap.trans O;have i1:=o1.lt;have i2:=o2.lt;have v1:=((o1.grow U.mod).keep ay λj V e=>by have:=i1 j V;omega).vw;have v2:=((o2.grow U.mod).keep ay λj V e=>by have:=i2 j V;omega).vw;have l1:=E_ (cs:=cs) (al:=pr.map ik) (t:=t);have l2:=Lp (cs:=cs) (al:=pr.map ik) (t:=t);have l3:(iP cs (pr.map ik) t).length<=20000:=by omega
 refine bA rfl ⟨_,_,_,_,bS (bf.grow (Q.trans O)),_,_,_,ae (J.grow O) rfl,_,_,_,_,_,_,bS dd,(OO (k:=k) (hc.grow dh) hn hx (bi.grow O) a_ b3 v1 (e_ _).symm (by omega) v2 (e_ _).symm l3).mono ?_⟩;rintro e ez ⟨g0,P,C,P2,C2,E',ks,rows,bl,rfl,co,hv,b_,d9,av⟩;obtain rfl:E'=0:=co.Er (.inr (.inr ⟨dc,bk,rfl⟩));obtain ⟨rfl,rfl,rfl⟩:=av rfl;have bc:=(Q.trans O).trans b_;refine ⟨_,_,_,_,_,_,_,_,rfl,bD (br.grow bc) rfl rfl λeg du aw=>⟨_,_,_,_,bS du,_,_,_,_,_,_,_,_,rfl,(G6.trans bc).then aw λj V e=>by omega,.inr ⟨rfl,rfl,pr,t,ks,ht,hB,b4,rfl,rfl,?_,?_,bk,ag⟩⟩⟩;all_goals have ew:=(Q.trans O).size
 . exact (hv _ _ aw λj V=>by omega).1
 . exact (hv _ _ aw λj V=>by omega).2
def Mo:Prop:=∀ {w:World} {q:sn} {m d:Nat} {hs:List Sl},V2 sT w q hs F8->m=F8.length->
 Calls prog kA.id #[.agg #[.i 3,.slice q m d],.agg #[.i (-1),.i 64,.i 200]] w λe w'=>∃ (mp:sn) (J:Nat) (I:sn) (pc:Nat) (pr:List Ps) (cf de re dr:Int),e=.returned (.tuple #[.agg #[.i 2,.slice mp 0 J,.slice I pr.length pc,.i cf,.i de,.i re,.i dr],.i 0])/\pr.map ik= [(false,[])]/\Gl w.heap.size w' I pr/\pr.length<=pc/\ak w w'
theorem GM (H0:Mo):Calls prog dg.id #[] w λe w'=>e=.returned (.bool true)/\ak w w':=by
 refine dg.aj ?_;intro n1 w2 h2 n3 w4 h4 n5 w6 h6 n7 w8 h8 n9 J lU b9 dd av;have dh:=av.num;have cg:ak w J:=(((h2.mod.trans h4.mod).trans h6.mod).trans h8.mod).trans lU.mod;refine bD av.has rfl rfl λQ ag co=>?_;have ag:bT Q b9 #[.i 3,.slice (some ⟨n9,0,none⟩) 4 4]:=ag;have aT:ak J Q:=av.mod.then co λj hj e=>by omega
 have v1:Vw sT J (some ⟨n1,0,none⟩) [1,2]:=zQ ((((h2.has.grow h4.mod).grow h6.mod).grow h8.mod).grow lU.mod) rfl;have v3:Vw sT J (some ⟨n3,0,none⟩) [-1,2]:=zQ (((h4.has.grow h6.mod).grow h8.mod).grow lU.mod) rfl;have v5:Vw sT J (some ⟨n5,0,none⟩) [-2]:=zQ ((h6.has.grow h8.mod).grow lU.mod) rfl;have v7:Vw sT J (some ⟨n7,0,none⟩) [3]:=zQ (h8.has.grow lU.mod) rfl;have V:V2 sT J (some ⟨n9,0,none⟩) [⟨some ⟨n1,0,none⟩,2,2⟩,⟨some ⟨n3,0,none⟩,2,2⟩,⟨some ⟨n5,0,none⟩,1,1⟩,⟨some ⟨n7,0,none⟩,1,1⟩] F8:=by
  refine ⟨zQ lU.has rfl,rfl,λj hj=>?_⟩
  match j,hj with
  |0,_=>exact ⟨rfl,by show 2<=maxLen;decide,v1⟩
  |1,_=>exact ⟨rfl,by show 2<=maxLen;decide,v3⟩
  |2,_=>exact ⟨rfl,by show 1<=maxLen;decide,v5⟩
  |3,_=>exact ⟨rfl,by show 1<=maxLen;decide,v7⟩
  |j+4,h=>exact absurd h (by unfold F8;simp)
 have gd:=rz Q;have a6:cQ 3 F8=true:=by decide
 have core:∀ {v:World},ak Q v->Calls prog iv.id #[.agg #[.i 3,.slice (some ⟨n9,0,none⟩) 4 4],.agg #[.i (-1),.i 64,.i 200]] v λe v'=>∃ (g0:Int) (P:sn) (C:Nat) (P2:sn) (X C2:Nat),e=.returned (.tuple #[.agg #[.i g0,.slice P 3 C],.slice P2 X C2,.i 0])/\0<X/\ak v v':=by
  intro v gv;have Vv:=V.grow (aT.trans gv);refine (xy (A:=λ_=>False) (B:=λpr=>pr.map ik=P9) Vv rfl (by decide) a6 λu gu=> (uQ (A:=λ_ _ _ _ _=>False) (B:=λdU _ pr _=>dU=2/\pr.map ik=P9) (Vv.grow gu) rfl λx gx=> (H0 ((Vv.grow gu).grow gx) rfl).mono ?_).mono ?_).mono ?_
  . rintro e y ⟨mp,mc,pp,pc,pr,cf,de,re,dr,rfl,xr,aw,an,gy⟩;have h1:pr.length=1:=by have:=congrArg List.length xr;simpa using this
    refine ⟨_,_,_,_,_,_,_,_,_,_,_,_,rfl,gy,.inr ⟨rfl,[],pr,Vw.nil,.inl rfl,rfl,vx _,aw,λu hu=>?_,rfl,an,?_,?_,rfl,xr⟩⟩
    . have:=U1 (f:=ik) hu;rw [xr,Bs] at this;have h2:u.2.2= []:=congrArg Prod.snd this;rw [h2];exact vx _
    . rw [h1];decide
    . rw [xr];exact (ze ⟨a6,by decide,by decide,by decide⟩ (.inr ⟨rfl,by
       rw [uu,if_neg (by unfold jV;rw [if_pos (.inr (.inl Gm))];decide),if_pos ⟨rfl,rfl⟩]⟩)).symm
  . rintro e y ⟨dU,mp,mn,mc,pp,pn,pc,cf,er,rfl,gy,⟨_,h⟩| ⟨rfl,mo,pr,_,_,_,_,aw,_,b7,an,_,_,rfl,xr⟩⟩
    . exact h.elim
    have h1:pr.length=1:=by have:=congrArg List.length xr;simpa [P9] using this
    refine ⟨_,_,_,_,_,_,_,_,_,rfl,gy,.inr (.inr ⟨rfl,rfl,pr,aw,b7,an,by omega,λu hu=>?_,by rw [xr];decide,by rw [xr];exact ⟨0,Sq,Q5⟩,xr⟩)⟩;have:=U1 (f:=ik) hu;rw [xr] at this;have this:=Bs.1 this;have h2:u.2.2= []:=congrArg Prod.snd this;rw [h2];decide
  . rintro e y ⟨g0,P,gn,C,P2,X,C2,E,rfl,gy,⟨_,h,_⟩| ⟨rfl,_,pr,t,ks,ht,xr,_,ar,a7,_⟩⟩
    . exact h.elim
    rw [xr] at ht ar a7;obtain rfl:=ht.Er Sq;rw [UL,e_,LK] at ar;subst ar;refine ⟨_,_,_,_,_,_,rfl,?_,gy⟩;rw [a7];unfold vO;rw [UL,e_];exact WG (DP (cs:=F8) (al:=P9) (t:=0))
 have dG:∀ {v:World} {nn X:Nat} {g0:Int} {P:sn} {C:Nat},ak w v->0<X->bT v nn #[.i g0,.slice P 3 C]->∃bc ac bu,v.cell? ((qw nn).add 1)=some (.slice bc ac bu)/\
  aF ((ac:Int)==(3:Int)) (Ending.returned (Value.bool (decide ((X:Int)> (0:Int))))=.returned (.bool true)/\ak w v) (Ending.returned (Value.bool false)=.returned (.bool true)/\ak w v):=
  λg hb h=>⟨_,_,_,ae h rfl,bP rfl ⟨by rw [decide_eq_true (by omega)],g⟩⟩
 have O:=cg.trans aT;refine ⟨ak Q,gd,_,_,_,_,λv g=>bS (ag.grow g),⟨(Ex _).mono ?_,?_⟩⟩
 . rintro e b3 ⟨rfl,I⟩;have I:=gd.trans I;refine ⟨_,_,_,rfl,I,(core I).mono ?_,λd5 b_ U=>?_⟩
   . rintro e c3 ⟨g0,P,C,P2,X,C2,rfl,hb,a8⟩;refine ⟨_,_,_,_,_,_,_,_,rfl,λn26 d8 aa=>?_⟩;have dc:=aa.num;have ce:=(I.trans a8).trans aa.mod;refine ⟨ce,bD aa.has rfl rfl λdq b' b4=>bP rfl (dG ((O.trans (I.trans a8)).trans (aa.mod.then b4 λj hj e=>by omega)) hb b')⟩
   . have a':=I.trans U.mod;have d4:=U.num;refine ⟨a',(core a').mono ?_⟩;rintro e d' ⟨g0,P,C,P2,X,C2,rfl,hb,bb⟩;have ef:=(O.trans I).size;have zw:b3.heap.size<b_.heap.size:=by have:=U.has.lt;omega
     refine ⟨_,_,_,_,_,_,_,_,rfl,bD (U.has.grow bb) rfl rfl λdp b5 cb=>bP rfl (dG (((O.trans I).trans (U.mod.trans bb)).then cb λj hj e=>?_) hb b5)⟩;omega
 . intro d9 ec ap;have dT:=ap.num;have Z:=gd.trans ap.mod;refine ⟨Z,(Ex _).mono ?_⟩;rintro e eb ⟨rfl,Y⟩;refine ⟨_,_,_,rfl,Z.trans Y,(core (Z.trans Y)).mono ?_⟩;rintro e d7 ⟨g0,P,C,P2,X,C2,rfl,hb,bk⟩;have ei:=(O.trans gd).size;refine ⟨_,_,_,_,_,_,_,_,rfl,bD (ap.has.grow (Y.trans bk)) rfl rfl λdk bY cm=>bP rfl (dG ((O.trans ((Z.trans Y).trans bk)).then cm λj hj e=>?_) hb bY)⟩;omega
theorem KS (I:Mo) (g:ak W w):Calls prog dg.id #[] w λe w'=>∃r:Bool,e=.returned (.bool r)/\(Ending.returned (Value.bool r)=.returned (.bool true)/\ak W w'):=by
 refine (GM I).mono ?_;rintro e w' ⟨rfl,J⟩;exact ⟨true,rfl,rfl,g.trans J⟩
end
section
open Go.LeP
variable {w w' w1 w2 u u':World} {N n14:Nat} {cs:List (List Int)} {mo:List Int} {ms:List (List Int)} {hs hs':List Sl} {gp q:sn} {gc m d:Nat}
theorem Ef (b u l:Int) (w:World):Calls prog iA.id #[.agg #[.i b,.i u,.i l]] w λe w'=>e=.returned (.bool (rN u l))/\ak w w':=by
 refine iA.aj ?_;intro n1 w2 I;have F: ¬(1<=u/\u<=1048576/\1<=l/\l<=1048576)->Ending.returned (.bool false)=.returned (.bool (rN u l))/\ak w w2:=λh=>⟨by unfold rN;rw [decide_eq_false h],I.mod⟩
 refine ⟨_,ae I.has rfl,ah (λQ=>⟨_,ae I.has rfl,ah (λJ=>⟨_,ae I.has rfl,ah (λO=>⟨_,ae I.has rfl,?_,I.mod⟩) (λO=>F ?_)⟩) (λJ=>F ?_)⟩) (λQ=>F ?_)⟩;all_goals simp only [decide_eq_true_eq,decide_eq_false_iff_not] at*
 all_goals first|omega|skip
 have:decide (l<=1048576)=rN u l:=by unfold rN;exact decide_eq_decide.2 (by omega)
 rw [this]
theorem Jk {v:Value} (h:J_ w (.cons (.int .i64) (.cons (.int .i64) (.cons (.int .i64) .nil))) v):∃a b c,v=.agg #[.i a,.i b,.i c]:=by
 obtain ⟨cs,rfl,x,y,rfl,⟨a,rfl,_⟩,J,O,rfl,⟨b,rfl,_⟩,I,Q,rfl,⟨c,rfl,_⟩,rfl⟩:=h;exact ⟨a,b,c,rfl⟩
end
section
open Go.LeP
variable {w w' w1 w2 u:World} {N m d:Nat} {cs:List (List Int)} {hs:List Sl} {q p:sn} {k:Int} {mo:List Int} {n c:Nat}
theorem Mh (N:Nat) (h:N<=20):IntKind.i64.wrap ((1:Int)*2 ^ (min (N:Int).toNat (IntKind.bits .i64)))=((2 ^ N:Nat):Int):=by
 rw [tn,show min N (IntKind.bits .i64)=N from U7 (by show N<=64;omega),Int.one_mul];have:((2:Int) ^ N)=((2 ^ N:Nat):Int):=by rw [Int.natCast_pow];rfl
 rw [this];have I:2 ^ N<=2 ^ 20:=Vd (by omega) h;have O:2 ^ 20=1048576:=rfl;obtain ⟨M,J⟩: ∃M:Nat,2 ^ N=M:=⟨_,rfl⟩
 rw [J] at I ⊢;exact aA (by omega) (by omega)
def Es (N:Nat) (cs:List (List Int)):Prop:=∃mo,QS N mo/\gU mo cs=true
theorem B_ (hc:V2 sT w q hs cs) (hm:m=cs.length) (hx:m<=100000) (hN:N<=20):
 Calls prog iB.id #[.agg #[.i N,.slice q m d]] w λe w'=>∃ (p:sn) (n c:Nat) (r:Bool),e=.returned (.tuple #[.slice p n c,.bool r])/\(r=true↔Es N cs)/\ak w w':=by
 refine iB.aj ?_;intro n1 w2 h2;have a8:2 ^ N<=1048576:=UY (Vd (by omega) hN) (by decide);refine ⟨λn u z=>∃j:Nat,n=j/\j<=2 ^ N/\z=2 ^ N - j/\(∀t,t<j->gU (ie N t) cs=false)/\ak w2 u,⟨_,0,rfl,vx _,rfl,λt ht=>by omega,aD.refl _⟩,?_⟩;rintro n u z _ ⟨j,rfl,hj,rfl,aa,G⟩;have B:=h2.has.grow G;refine ⟨_,ae B rfl,by omega,?_⟩;rw [Mh N hN];refine ah (λr=>?_) (λr=>?_)
 . have r:j<2 ^ N:=by
    have:(j:Int)< ((2 ^ N:Nat):Int):=by simpa using r
    omega
   have gd:ak u u.drew:=(aD.refl u).drew;have Bd:=B.grow gd;have dG:∀ {v:World} {pm:sn} {V:Nat},ak u.drew v->dz aq v pm V (ie N j)->Calls prog dY.id #[.agg #[.i N,.slice q m d],.slice pm N V] v λe U=>∃Z,e=.returned (.bool Z)/\
    aF Z
    (∃Y,U.cell? ((qw n1).add 0)=some (.i Y)/\
      Calls prog dW.id #[.i Y,.i j] U λe X=>∃O Q J,e=.returned (.slice O Q J)/\
      (∃ (p:sn) (n c:Nat) (r:Bool),Ending.returned (.tuple #[.slice O Q J,.bool true])=.returned (.tuple #[.slice p n c,.bool r])/\(r=true↔Es N cs)/\ak w X))
    (∃k5,k5<2 ^ N - j/\∃j':Nat,(IntKind.i64.wrap ((j:Int)+ (1:Int)))=j'/\j'<=2 ^ N/\k5=2 ^ N - j'/\(∀t,t<j'->gU (ie N t) cs=false)/\ak w2 U):=by
    intro v pm V gv o;refine (DI (hc.grow ((h2.mod.trans G).trans (gd.trans gv))) hm (by unfold maxLen;omega) o.vw (by rw [ue]) (by unfold maxLen;omega)).mono ?_;rintro e az ⟨rfl,ay⟩;have GG:=G.trans ((gd.trans gv).trans ay);refine ⟨_,rfl,ah (λr2=>?_) (λr2=>⟨_,by omega,j+1,wN,r,rfl,λt ht=>?_,GG⟩)⟩
    . refine ⟨_,ae (h2.has.grow GG) rfl,(sH (k:=N) (n:=j) (by omega) (by omega) az).mono ?_⟩;rintro e X ⟨⟨pm,V,rfl,_⟩,an⟩;exact ⟨_,_,_,rfl,_,_,_,_,rfl,⟨λ_=>⟨_,IL N j,r2⟩,λ_=>rfl⟩,h2.mod.trans (GG.trans an)⟩
    . by_cases e:t<j
      . exact aa t e
      . obtain rfl:t=j:=by omega
        exact r2
   refine ⟨_,ae Bd rfl,⟨_,_,_,_,bS Bd,(sH (k:=N) (n:=j) (by omega) (by omega) u.drew).mono ?_⟩,(sH (k:=N) (n:=j) (by omega) (by omega) u.drew).mono ?_⟩
   . rintro e aw ⟨⟨pm,V,rfl,o,_⟩,I⟩;exact ⟨_,_,_,rfl,dG I o⟩
   . rintro e aw ⟨⟨pm,V,rfl,o,_⟩,I⟩;exact ⟨_,_,_,rfl,_,_,_,_,bS (Bd.grow I),dG I o⟩
 . have r:j=2 ^ N:=by
    have:((2 ^ N:Nat):Int)<=(j:Int):=by simpa using r
    omega
   subst r;refine ⟨_,_,_,_,rfl,⟨λe=> (by cases e),λ⟨mo,h1,h3⟩=>?_⟩,h2.mod.trans G⟩;obtain ⟨t,ht,rfl⟩:=xk h1;rw [aa t ht] at h3;cases h3
theorem QL (U:V2 sT w q hs cs) (hm:m=cs.length):Calls prog iM.id #[.agg #[.i k,.slice q m d]] w λe w'=>∃r:Bool,e=.returned (.bool r)/\(r=true->cs.length<=40/\cQ k cs=true/\k<=10)/\ak w w':=by
 refine iM.aj ?_;intro n1 w2 I;refine ⟨_,_,_,_,bS I.has,(Lt (U.grow I.mod) hm).mono ?_⟩;rintro e Y ⟨r,rfl,hr,Q⟩;have J:=I.mod.trans Q;refine ⟨_,rfl,ah (λX=>⟨_,_,_,_,bS (I.has.grow Q),(Iy (U.grow J) hm).mono ?_⟩) (λ_=>⟨_,rfl,λe=> (by cases e),J⟩)⟩;rintro e Z ⟨rfl,O⟩;refine ⟨_,rfl,ah (λV=>⟨_,ae (I.has.grow (Q.trans O)) rfl,_,rfl,λe=>⟨hr X,V,by simpa using e⟩,J.trans O⟩) (λ_=>⟨_,rfl,λe=> (by cases e),J.trans O⟩)⟩
end
section
open Go.LeP
variable {w w' w1 w2 u:World} {N m d:Nat} {cs:List (List Int)} {hs:List Sl} {q p:sn} {k:Int} {n c:Nat} {pr:List (Bool × List Int)}
theorem PE.pv (h:PE cs N pr):(uu cs pr).2=0/\0<=(uu cs pr).1/\(uu cs pr).1<pr.length:=by
 obtain ⟨t,ht,he,hn⟩:=h.dG;have st:∀i,i<pr.length->jV (Ak cs pr i) (pr.getD i cS)=0/\qq (Ak cs pr i) (pr.getD i cS)=Ak cs pr (i+1):=by
  intro i hi;have hu:=h.up i hi;have e:Ak cs pr (i+1)=if (pr.getD i cS).1=true then p8 (pr.getD i cS).2 (Ak cs pr i) else Ak cs pr i++ [(pr.getD i cS).2]:=rfl
  rw [e];cases O:(pr.getD i cS).1 with
  |true=>
   have:=vn (k:=0) (cs:=Ak cs pr i) O;exact ⟨this.1,this.2.1⟩
  |false=>
   have:=rH (k:=0) (cs:=Ak cs pr i) O (.inl (hu.resolve_left (by show ¬(pr.getD i cS).1=true;rw [O];decide)));exact ⟨this.1,this.2.1⟩
 have J:∀i,i<=t->AX cs pr i (Ak cs pr i):=by
  intro i
  induction i with
  |zero=>exact λ_=>AX.zero cs pr
  |succ i ih=>
   intro hi;have h1:=(ih (by omega)).next (by omega) (st i (by omega)).1 λe=>hn i (by omega) (sZ.1 e)
   rwa [(st i (by omega)).2] at h1
 have I:=(J t (y4 _)).dG (by omega) (st t (by omega)).1 (sZ.2 he);rw [I];exact ⟨rfl,by show (0:Int)<=t;omega,by show (t:Int)<pr.length;omega⟩
theorem Fs {v:Value} (h:J_ w (.cons (.int .i64) (.cons (.sl (.sl (.int .i64))) .nil)) v):∃k q j d hs cs,v=.agg #[.i k,.slice q j d]/\j=cs.length/\j<=d/\V2 sT w q hs cs:=by
 obtain ⟨cs,rfl,x,y,rfl,⟨k,rfl,Z⟩,z,u,rfl,V,rfl⟩:=h;have hv:∃s,z= [s]/\J_ w (.sl (.sl (.int .i64))) s:=by
  rcases V with rfl| ⟨Q,I,J,rfl,g⟩
  . exact ⟨_,rfl,.inl rfl⟩
  . exact ⟨_,rfl,.inr ⟨Q,I,J,rfl,g⟩⟩
 obtain ⟨s,rfl,hs'⟩:=hv;obtain ⟨q,m,d,U,rows,rfl,hm,O,X,Y⟩:=GU (λv=>ET) hs';exact ⟨k,q,m,d,U,rows,rfl,hm,O,Y⟩
end
end Go.Proofs.YtbdghpjnifjlmaaGreat.W
