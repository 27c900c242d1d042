/- Layer 14: the search: its parts. -/
import Derived.Test.YtbdghpjnifjlmaaGreatPotA
import Derived.Test.YtbdghpjnifjlmaaGreatPfA
set_option linter.all false
namespace Go.Proofs.YtbdghpjnifjlmaaGreat.W
open Go Go.Fw Go.RowKit Go.SoP Go.LiP Go.LeP
open Go.Proofs.Tryz (prog)
section
variable{w0 w w' w1 w2 u:World}{B N i:Nat}{L L' L1:Nat->Nat}{x:Xs}{l:List Int}{cs:lq}{hv:List (Nat × List Int)}{un:lq}
def Fu(u l:Int):Bool:=decide (1<=u/\u<=1048576/\1<=l/\l<=1048576)
theorem JQ(b u l:Int)(w:World):Calls prog 60 #[.agg #[.i b,.i u,.i l]] w λe w'=>e=.returned (.i (if Fu u l then 0 else 1))/\ak w w':=by
 refine nY.aj ?_;intro V w2 I;have R:∀ {r:Int},r=(if Fu u l then 0 else 1)->Ending.returned (.i r)=.returned (.i (if Fu u l then 0 else 1))/\ak w w2:=λe=>⟨by rw[e],I.mod⟩
 have F: ¬(1<=u/\u<=1048576/\1<=l/\l<=1048576)->(1:Int)=(if Fu u l then 0 else 1):=λh=>by unfold Fu;rw[x9 h];rfl
 refine⟨_,ae I.has rfl,ah (λO=>R (F ?_)) (λO=>⟨_,ae I.has rfl,ah (λJ=>R (F ?_)) (λJ=>⟨_,ae I.has rfl,ah (λQ=>R (F ?_)) (λQ=>⟨_,ae I.has rfl,ah (λU=>R (F ?_)) (λU=>R ?_)⟩)⟩)⟩)⟩;all_goals simp only[x7,x8]at*
 all_goals first|omega|skip
 unfold Fu;rw[I4 (by omega)];rfl
theorem SR.run(h:SR w0 w B L N x)(g:aL x.s):Calls prog 64 #[cj x.pb] w λe w'=>∃r:Int,e=.returned (.i r)/\∃I L',SR w0 w' B L' N {x with s:=I}/\Kp w0 w w' L L'/\aL I/\jI x.s I/\((r= -1/\dE I)\/∃i:Nat,r=i/\xN I i):=by
 obtain⟨H,pm,hl⟩:=h.pm id;refine(GQ pm g).mono ?_;rintro e w'⟨r,rfl,I,Q,p,O,ex,J⟩;have:=h.wU hl pm.lt p;exact⟨r,rfl,I,_,this.1,this.2,O,ex,J⟩
theorem pR.run(st:pR N cs x){I:aH}(J:aL I)(e:jI x.s I):pR N cs {x with s:=I}:=
 ⟨st.ci.run e J,st.hi.run st.ci e J,st.ph,st.n,st.Ry,st.bX,st.pf.ext e,st.mo⟩
structure KP where
 D:Nat
 wB:Nat
 C:Nat
 u:Nat
 T:Nat
def KP.qd(K:KP)(N:Nat)(lrn:Int):Nat:=if 0<K.wB then QuP.quo lrn.toNat 0+ (2*N+2)+PotP.MA (QuP.quo lrn.toNat) (K.wB - 1) 0+ (5*K.D+K.C) else K.C
structure TP(K:KP)(N:Nat)(lrn:Int):Prop where
 hu:1<=K.u/\K.u<=1048576
 hl:1<=lrn/\lrn<=1048576
 hN:2 ^ (N - 2)<=K.D
 hC:∀a l,1<=a->l<=K.u*Luby.kI a->∃n,PotP.Tl (4*K.D) K.u a l n/\n<=K.C
 hD:∀w,K.wB<=w->K.D<=QuP.quo lrn.toNat w - PotP.qp (QuP.quo lrn.toNat) w
 hq:K.T+1<QuP.quo lrn.toNat 100
 ht:K.qd N lrn<=K.T
abbrev VP(x:Xs):Prop:=∃c∈x.un.map (·.2),c.length=1
def IT(K:KP)(N:Nat)(lrn:Int)(x:Xs)(μ:Nat):Prop:=∃ (I:Bool) (β r a l:Nat),xr I x.s β/\(I=true->P0 x.s (VP x))/\x.m.pu=K.u/\x.m.pa=a/\x.m.pl=l/\(∀c∈x.un,c.2.length<=1)/\a<=x.s.nc+1/\
 PotP.SF K.D K.wB K.C K.u (2*N+2) (QuP.quo lrn.toNat) I x.m.bX.toNat x.hv.length x.un.length a l β r μ
theorem IT.new{K:KP}{lrn:Int}(ok:TP K N lrn)(X:x.s.R .be= [])(hv:x.s.vars=N)(h1:x.m.pu=K.u)(U:x.m.pa=1)(Z:x.m.pl=K.u)(J:x.un= [])(O:x.hv= [])(Y:x.m.bX=0):∃μ,IT K N lrn x μ/\μ<=K.qd N lrn:=by
 have hu:=ok.hu;have hl:=ok.hl;have l1:Luby.kI 1=1:=by have:=Luby.kK 0;simpa using this
 have q0:QuP.quo lrn.toNat 0=lrn.toNat:=rfl;have hN:=ok.hN;have V:=W_ (N - 2);have I:K.u<=K.u*Luby.kI 1:=by rw[l1];omega
 have Q:K.u*Luby.kI 1 - K.u=0:=by rw[l1];omega
 have mk:∀μ,((0<K.wB/\μ=(QuP.quo lrn.toNat 0 - 0)+ (2*N+2 - 0)+PotP.MA (QuP.quo lrn.toNat) (K.wB - 1 - 0) 0+ (5*K.D+K.C))\/
  (K.wB<=0/\0<=PotP.qp (QuP.quo lrn.toNat) 0+0/\PotP.Md K.D K.C K.u false 1 K.u (2 ^ (N - 2) - 1) 0 μ (K.u*Luby.kI 1 - K.u)))->IT K N lrn x μ:=by
  intro μ hp;refine⟨false,2 ^ (N - 2) - 1,0,1,K.u,xr.RA X hv,λe=> (by cases e),h1,U,Z,by rw[J];simp,by omega,?_⟩;rw[J,O,Y];exact⟨hu.1,I,vy _,by omega,by show 0<QuP.quo lrn.toNat 0;omega,hp⟩
 by_cases e:0<K.wB
 .refine ⟨_,mk _ (.inl ⟨e,rfl⟩),?_⟩;unfold KP.qd;rw[v8 e];exact vy _
 .obtain ⟨n,t,hn⟩:=ok.hC 1 K.u (vy _) I;refine⟨n,mk n (.inr ⟨by omega,xc _,.inl ⟨t,hn,.inl ⟨rfl,by rw[Q];omega,by rw[Q];omega⟩⟩⟩),?_⟩;unfold KP.qd;rw[r8 e];exact hn
theorem EI{lrn bX:Int}(h:1<=lrn/\lrn<=1048576)(I:0<=bX/\bX<=100):Re.nZ lrn bX=(QuP.quo lrn.toNat bX.toNat:Nat):=by
 unfold Re.nZ;rw[v8 (by unfold Re.Gq;exact I4 ⟨h.1,h.2,I.1,I.2⟩)]
theorem On{s:aH}(k:qB N cs s hv un)(h:∀c∈un,c.length<=1):un.length<=2*N+2:=by
 have J:=k.dn;rw[GD]at J;have J:=(Xu.1 J).2.1;have hs:=WR J (l₂:=([]::(List.range (2*N+1)).map λ(j:Nat)=> [(j:Int) - N]).map λc=>xF c N) λy O=>by
  obtain⟨c,I,rfl⟩:=LV.1 O;refine LV.2 ⟨c,?_,rfl⟩;have h1:=h c I
  match c,h1,I with
  | [],_,_=>exact Wb
  | [z],_,I=>
    obtain⟨Q,U,V⟩:=(k.ok [z] (WB _ I)).tI z (by simp);refine xk _ (LV.2 ⟨(z+N).toNat,Wv.2 (by omega),?_⟩);show [((z+N).toNat:Int) - N]= [z]
    rw[show ((z+N).toNat:Int) - N=z by omega]
  |_::_::_,h1,_=>simp at h1
 simpa using hs
theorem P0.run{s I:aH}{U:Prop}(p:P0 s U)(e:jI s I):P0 I U:=by
 obtain⟨k,J⟩:=e.tr;refine⟨λh=>?_,λh=>?_⟩
 .rw [e.be]at h ⊢;exact p.1 h
 .rw [e.be]at h;rcases p.2 h with h|h
  .refine .inl ?_;rw[J,I'];omega
  .exact .inr h
theorem P0.decide{s:aH}{v:Int}(k:qB N cs s hv un)(V:dE s)(p:P0 s (∃c∈un,c.length=1)):P0 (s.decide v) (∃c∈un,c.length=1):=by
 refine⟨λ_=>?_,λh=>?_⟩
 .rw [nO];by_cases e:s.R .be= []
  .have ht:1<=(s.R .tr).length:=by
    rcases p.2 e with h| ⟨c,O,hl⟩
    .exact h
    .obtain ⟨x,rfl⟩: ∃x,c= [x]:=by
      match c,hl with
      | [x],_=>exact⟨x,rfl⟩
     obtain⟨j,_,X,Y,_⟩:=k.Nw _ O;rcases V j X with⟨y,I,ht⟩| ⟨y,I,z,Q,J,_⟩
     .exact Xq ht
     .rw [Y,xv]at I Q;exact absurd (I.trans Q.symm) J
   rw[e];show (1:Int)<=((s.R .tr).length:Int)
   omega
  .have h1:=p.1 e;have U:0< (s.R .be).length:=Wx.2 e;have Z:(s.R .be++ [((s.R .tr).length:Int)]).getD 0 0=(s.R .be).getD 0 0:=by
    simp only[vx];rw[Wd U]
   rw[Z];exact h1
 .rw [nO]at h;simp at h
theorem P0.Fk{O:Xs}{U X:Prop}(p:P0 x.s U)(J:x.s.R .be≠[])(C:U0 N x O):P0 O.s X:=by
 have h1:=p.1 J;obtain⟨⟨j,Q⟩,b2⟩:=C.bp;refine⟨λh=>?_,λh=> .inl (by have:=b2 h;omega)⟩;have I:0<j:=Nat.pos_of_ne_zero λe=>h (by rw[Q,e];rfl);have V:((x.s.R .be).take j).getD 0 0=(x.s.R .be).getD 0 0:=by
  simp only[vx,WE];rw[v8 I]
 rw[Q,V];exact h1
theorem IT.run{K:KP}{lrn:Int}{μ:Nat}(P:IT K N lrn x μ){I:aH}(e:jI x.s I):IT K N lrn {x with s:=I} μ:=by
 obtain⟨J,β,r,a,l,rb,Q,h1,O,V,U,h5,p⟩:=P;exact⟨J,β,r,a,l,rb.run e,λf=> (Q f).run e,h1,O,V,U,by show a<=I.nc+1;rw[e.n];exact h5,p⟩
theorem IT.wL{K:KP}{lrn:Int}{μ:Nat}(P:IT K N lrn x μ)(st:pR N cs x)(I:dE x.s){v de:Int}{S':Int->Prop}:IT K N lrn {x with s:=x.s.decide v,S:=S',m:= {x.m with de:=de}} μ:=by
 obtain⟨J,β,r,a,l,rb,Q,h1,O,V,U,h5,p⟩:=P;exact⟨J,β,r,a,l,xr.decide (rb.eh st.ci.g (.inl I)),λf=>P0.decide st.ci I (Q f),h1,O,V,U,h5,p⟩
theorem IT.Fk{K:KP}{lrn:Int}{μ:Nat}{I:Xs}(ok:TP K N lrn)(P:IT K N lrn x μ)(hl:x.m.lrn=lrn)(V:pR N cs I)(C:U0 N x I)(hw:0<=x.m.bX/\x.m.bX<=100)(b7:x.s.nc<=262143)(a_:x.s.R .be≠[]):∃μ',IT K N lrn I μ'/\μ'+1<=μ:=by
 obtain⟨fl,β,r,a,l,rb,p0,h1,h2,h3,h4,h5,p⟩:=P;have b2:=C.rb fl β rb;obtain⟨u1,u2⟩:=ok.hu;have TK:Lu.GG (K.u:Int) (a:Int) (l:Int):=by
  have:=p.l1;have:=p.a1;have h:=p.l2;refine⟨by omega,by omega,by omega,by omega,by omega,?_⟩;rw[tn,<- Zd];exact Int.ofNat_le.2 h
 obtain⟨c1,c2,c3⟩:=C.pc;have bz:=C.bz;rw[h1,h2,h3]at c1 c2 c3 bz;unfold Lu.rI at c1;rw[v8 TK]at c1;have az:(a:Int)≠1073741824:=by omega
 have an:Lu.oM (K.u:Int) a l=decide (l=1):=by
  unfold Lu.oM;rw[I4 TK,W2];exact decide_eq_decide.2 (by omega)
 rw[an]at bz;have Z:I.m.pa=((if 1<l then a else a+1:Nat):Int):=by
  rw[c2];unfold Lu.nC;rw[v8 TK];by_cases e:1<l
  .rw [v8 (by omega),v8 e]
  .rw [r8 (by omega),r8 az,r8 e];rfl
 have aw:I.m.pl=((if 1<l then l - 1 else K.u*Luby.kI (a+1):Nat):Int):=by
  rw[c3,show Lu.qt (K.u:Int) a l=if 1< (l:Int) then (l:Int) - 1 else (K.u:Int)* (Luby.kI (Lu.nC (K.u:Int) a l).toNat:Int) by unfold Lu.qt;rw[v8 TK],<- c2,Z];by_cases e:1<l
  .rw [v8 (by omega),v8 e];omega
  .rw [r8 (by omega),r8 e,r8 e,tn,Zd]
 obtain⟨g1,ap,O⟩:=C.ch;have U:∀c∈I.un,c.2.length<=1:=by
  intro c J;rcases ap with⟨_,e⟩| ⟨_,d,hd,e⟩
  .rw [e]at J;exact h4 c J
  .rw [e]at J;rcases y4.1 J with J|J
   .exact h4 c J
   .rw [xv]at J;subst J;exact hd
 have hU:=On V.ci (λc J=>by
  obtain⟨d,hd,rfl⟩:=LV.1 J;exact U d hd)
 rw[We]at hU;have enc:=C.nc;have b5:1<=K.D:=by have:=p.hb;omega
 rw[hl]at O;have Q:=EI ok.hl hw;have q1:∀w,1<=QuP.quo lrn.toNat w:=λw=>Wl (by have:=ok.hl;show 1<=QuP.quo lrn.toNat 0;show 1<=lrn.toNat;omega) (QuP.Al _ 0 w (by omega));have qs:∀w,QuP.quo lrn.toNat w<QuP.quo lrn.toNat (w+1):=λw=>by show _<QuP.quo _ w+QuP.quo _ w / 10+1;omega
 have b':=q1 x.m.bX.toNat;have A1:(decide (l=1)=true/\l=1/\(if 1<l then a else a+1)=a+1/\(if 1<l then l - 1 else K.u*Luby.kI (a+1))=K.u*Luby.kI (a+1))\/(decide (l=1)=false/\1<l/\(if 1<l then a else a+1)=a/\(if 1<l then l - 1 else K.u*Luby.kI (a+1))=l - 1):=by
  have:=p.l1;by_cases e:l=1
  .exact .inl ⟨I4 e,e,r8 (by omega),r8 (by omega)⟩
  .exact .inr ⟨x9 e,by omega,v8 (by omega),v8 (by omega)⟩
 have A2:(g1=x.hv.length+1/\I.un.length=x.un.length)\/(g1=x.hv.length/\I.un.length=x.un.length+1/\I.un.length<=2*N+2):=by
  rcases ap with⟨X,e⟩| ⟨X,d,_,e⟩
  .exact .inl ⟨X,by rw[e]⟩
  .exact .inr ⟨X,by rw[e];simp,hU⟩
 have A3:(decide (I.m.bX=x.m.bX+1)=false/\I.m.bX.toNat=x.m.bX.toNat/\I.hv.length=g1/\g1<QuP.quo lrn.toNat x.m.bX.toNat)\/(decide (I.m.bX=x.m.bX+1)=true/\I.m.bX.toNat=x.m.bX.toNat+1/\QuP.quo lrn.toNat x.m.bX.toNat<=g1/\I.hv.length<=g1/\g1<=2*I.hv.length+1):=by
  unfold GL at O;rw[Q]at O;rcases O with⟨X,Y,e3⟩| ⟨e0,X,Y,e3,e4⟩
  .exact .inl ⟨x9 (by omega),by rw[X],Y,by omega⟩
  .exact .inr ⟨I4 X,by omega,by omega,Y,e3⟩
 have hN:=ok.hN;have b6:=W_ (N - 2);rcases b2 with⟨a8,ar,av⟩| ⟨b1,b2⟩
 .obtain ⟨r',μ',p',m'⟩:=p.step (β':=K.D - 1) (sw:=true) u1 ok.hC ok.hD qs (.inr rfl) A1 A2 A3 (λ_=>a8) (.inl ⟨.inr (.inr rfl),by omega⟩);rw[Y1]at p';refine⟨μ',⟨true,_,r',_,_,(xr.Rz V.ci ar av).mono (by omega),λ_=>av,c1,Z,aw,U,?_,p'⟩,m'⟩;split<;>omega
 .have A4:((decide (l=1)=true\/decide (I.m.bX=x.m.bX+1)=true\/false=true)/\(if l=1\/I.m.bX=x.m.bX+1 then K.D - 1 else β - 1)+1=K.D)\/(decide (l=1)=false/\decide (I.m.bX=x.m.bX+1)=false/\false=false/\(if l=1\/I.m.bX=x.m.bX+1 then K.D - 1 else β - 1)+1=β):=by
   by_cases e:l=1\/I.m.bX=x.m.bX+1
   .rw [v8 e];exact .inl ⟨e.imp (λe=>I4 e) (λe=> .inl (I4 e)),by omega⟩
   .rw [r8 e];exact .inr ⟨x9 λh=>e (.inl h),x9 λh=>e (.inr h),rfl,by omega⟩
  obtain⟨r',μ',p',m'⟩:=p.step (sw:=false) u1 ok.hC ok.hD qs (.inl b1) A1 A2 A3 (λe=> (by cases e)) A4;rw[XJ]at p';have pc:fl=true->P0 I.s (VP I):=λf=>P0.Fk (p0 f) a_ C;refine⟨μ',⟨fl,_,r',_,_,?_,pc,c1,Z,aw,U,?_,p'⟩,m'⟩
  .by_cases e:l=1\/I.m.bX=x.m.bX+1
   .rw [v8 e];have hz:=bz (e.imp (λe=>I4 e) id);cases fl with
    |false=>exact(xr.RA hz V.ci.v).mono (by omega)
    |true=>exact(xr.Rz V.ci hz (pc rfl)).mono (by omega)
   .rw [r8 e];rcases O with⟨Y,_⟩| ⟨_,Y,_⟩
    .exact b2 (by rw[h1,h2,h3,an];exact x9 λh=>e (.inl h)) Y
    .exact absurd (.inr Y) e
  .split<;>omega
structure Cc(K:KP)(w0 w:World)(B:Nat)(L:Nat->Nat)(N:Nat)(cs:lq)(AQ lrn:Int)(x:Xs)(μ:Nat):Prop where
 sr:SR w0 w B L N x
 st:pR N cs x
 IA:x.m.lrn=lrn
 Dy:x.m.AQ=AQ
 dO:x.m.dO=0
 cf:0<=x.m.cf/\x.m.cf<=x.s.nc/\(0<=AQ->x.m.cf<=AQ)
 de:0<=x.m.de/\x.m.de<=1000*x.m.cf+ (x.s.R .be).length
 re:0<=x.m.re/\x.m.re<=x.s.nc
 dr:0<=x.m.dr/\x.m.dr+x.hv.length<=x.s.nc
 pl:x.pr.length+x.hv.length+2*cs.length<=2*x.s.nc
 pt:IT K N lrn x μ
 nc:x.s.nc+μ<=262143
 cn:x.s.nc+μ<=cs.length+K.T
 hb:x.hv.length+μ<=K.T
 u0:uB cs []->x.s.R .be= []/\x.pr= []/\x.s.nc=cs.length
def JD(N μ:Nat)(x:Xs):Nat:=μ* (N+1)+ (N - (x.s.R .be).length)
theorem MG{s:aH}(k:qB N cs s hv un)(hN:N<=1000)(hc:dE s)(ha:∀v:Int,1<=v->v<=N->s.val v≠0):(nG s N).length=N/\(∀y∈nG s N,y=1\/y= -1)/\∀c∈cs,∃l∈c,jF (nG s N) l=1:=by
 have hlen:(nG s N).length=N:=by simp[nG]
 have hb:=λv=>s.rD k.g.wf v;refine⟨hlen,λy U=>?_,λc ag=>?_⟩
 .unfold nG at U;obtain⟨j,hj,rfl⟩:=LV.1 U;have:=Wv.1 hj;have h1:=ha ((j:Int)+1) (by omega) (by omega);have h2:=hb ((j:Int)+1);omega
 .obtain ⟨j,hj,rfl⟩:=Bs.1 ag;obtain⟨h1,h2⟩:=k.fc j hj;have e2:cs.getD j []=cs[j]:=by simp[List.getD,hj]
  rw[e2]at h2;rcases hc j h1 with⟨y,U,ht⟩| ⟨y,U,z,hz,_,v0,_⟩
  .rw [h2]at U;refine⟨y,U,?_⟩;have I:=k.g.tv y ht;have Z:=(k.g.v1 y I).2 ht;rw[k.v]at I;obtain⟨J,O,X⟩:=I;have ap:=dZ.bo ⟨J,O,X⟩;have Y:cC y=true:=zp (n:=N) (by omega) ⟨J,O,X⟩;have ge:(nG s N).getD (bo y - 1).toNat 0=s.val (bo y):=by
    have h3:(bo y - 1).toNat<N:=by omega
    unfold nG;simp only[vx,WW];rw[List.getElem?_range h3];show s.val (((bo y - 1).toNat:Int)+1)=_;rw[show ((bo y - 1).toNat:Int)+1=bo y by omega]
   unfold jF;rw[r8 (by rw[Y,hlen];simp;omega),ge];by_cases e:y<0
   .have V:bo y= -y:=by unfold bo;rw[v8 e]
    have Q:s.val (-y)= -s.val y:=pN (n:=N) ⟨J,O,X⟩;rw[V,Q,Z,r8 (by decide),x9 (by omega: ¬(-1:Int)>0),x9 (by omega: ¬y>0)];rfl
   .have V:bo y=y:=by unfold bo;rw[r8 e]
    rw[V,Z,r8 (by decide),I4 (by omega:(1:Int)>0),I4 (by omega:y>0)];rfl
  .have I:=k.g.cv j h1 y ((k.g.ca j h1 y).2 U);rw[k.v]at I;obtain⟨J,O,X⟩:=I;have hv:=ha (bo y) (by have:=dZ.bo ⟨J,O,X⟩;omega) (by have:=dZ.bo ⟨J,O,X⟩;omega);exfalso;by_cases e:y<0
   .have V:bo y= -y:=by unfold bo;rw[v8 e]
    have Q:s.val (-y)= -s.val y:=pN (n:=N) ⟨J,O,X⟩;rw[V,Q]at hv;omega
   .have V:bo y=y:=by unfold bo;rw[r8 e]
    rw[V]at hv;omega
theorem G1{s:aH}(k:qB N cs s hv un)(U:xN s i)(V:s.R .be= []):∀v,Rg N v->¬∀d∈cs,BP v d:=by
 intro v m Q;have key:∀x∈s.R .tr,v x=1:=k.g.wT (λx J=>by unfold aH.wL at J;rw[V]at J;simp at J) λc O l hl X _=>by
  obtain⟨i,hi,rfl⟩:=O;obtain⟨y,I,hv⟩:=k.imp i hi v m Q;by_cases e:y=l
  .rw [<- e];exact hv
  .have:=X y I e;rw[m.neg,hv]at this;omega
 obtain⟨y,I,hv⟩:=k.imp i U.1 v m Q;have:=key _ (U.2 y I);rw[m.neg,hv]at this;omega
theorem Tn{s:aH}(k:qB N cs s hv un)(hn:s.nc=cs.length)(Q:s.R .be= [])(U:dE s): ¬uB cs []:=by
 have:=Ej (cs:=cs) (c:= []) (r:= -1) k.g (.inl ⟨rfl,U⟩) (λx=>⟨λI=>?_,λ⟨i,hi,e⟩=>?_⟩) rfl (λx I=>by simp at I) (λx I=>by unfold aH.wL at I;rw[Q]at I;simp at I)
 .intro h;have:=this.2 h;omega
 .obtain ⟨j,J,rfl⟩:=Bs.1 I;obtain⟨h1,O⟩:=k.fc j J;exact⟨j,h1,by rw[O];simp[List.getD,J]⟩
 .have J:i<cs.length:=by have:=hi.1;omega
  obtain⟨h1,O⟩:=k.fc i J;rw[<- e,O];simp[List.getD,J]
theorem Py{s:aH}{S:Int->Prop}(h:∀v,S v):Ei N s S:=λv _ _ _=>h v
theorem Rf{s:aH}(d:Lv N cs s)(g:aL s):qB N cs s [] []:=by
 have fc:∀j,j<cs.length->s.aN j/\s.R (.a j)=cs.getD j []:=λj I=>⟨⟨by rw[d.n];exact I,d.g j I⟩,d.a j I⟩
 refine⟨g,d.v,fc,λi hi v m O=>?_,by simp,by simp,by simp,λj I=>?_,by simp,by simp⟩
 .have J:i<cs.length:=by have:=hi.1;rw[d.n]at this;exact this
  rw[d.a i J];refine O _ ?_;simp[List.getD,J]
 .rw [d.be]at I;simp at I
end
section
variable{w0 w w' w1 w2 u:World}{B N i μ:Nat}{K:KP}{L L' L1:Nat->Nat}{x:Xs}{l:List Int}{cs:lq}{hv:List (Nat × List Int)}{un:lq}
def Lc(z:Nat)(w':World)(N M:Nat)(cs:lq)(AQ:Int)(e:Ending):Prop:=
 ∃ (dO:Int) (mp:sn) (J U:Nat) (Q:sn) (I pc:Nat) (cf de re dr O:Int),e=.returned (.tuple #[.agg #[.i dO,.slice mp J U,.slice Q I pc,.i cf,.i de,.i re,.i dr],.i O])/\0<=cf/\0<=de/\0<=re/\0<=dr/\
   ((O=6/\dO=0/\J=0/\I=0/\0<=AQ/\cf=AQ)\/
    (O=0/\dO=1/\I=0/\(0<=AQ->cf<=AQ)/\∃mo:List Int,J=mo.length/\Vw sT w' mp mo/\(∀k,aF mp=some k->z<=k)/\mo.length=N/\(∀y∈mo,y=1\/y= -1)/\∀c∈cs,∃l∈c,jF mo l=1)\/
    (O=0/\dO=2/\J=0/\(0<=AQ->cf<=AQ)/\(∀v,Rg N v->¬∀d∈cs,BP v d)/\∃pr:List Ps,I=pr.length/\HZ z w' Q pr/\PE cs N (pr.map kQ)/\pr.length<=2*M+1/\I<=pc/\(uB cs []->pr.map kQ= [(false,[])])))
theorem Tu(h:bO w B x.cells):aM w ((qw B).add 14) 0 [.i x.m.dO,x.ms.v,x.ps.v,.i x.m.cf,.i x.m.de,.i x.m.re,.i x.m.dr]:=
 ⟨bN h rfl,bN h rfl,bN h rfl,bN h rfl,bN h rfl,bN h rfl,bN h rfl,trivial⟩
theorem Oi{n5:Nat}(h:bO w B x.cells)(h5:bO w n5 #[.i 0,.slice none 0 0,.slice none 0 0,.i 0,.i 0,.i 0,.i 0]){K:Value->World->Prop}
 (hk:∀w',aE (·=n5) w w'->K (.agg #[.i x.m.dO,.slice x.ms.p x.ms.n x.ms.c,.slice x.ps.p x.ps.n x.ps.c,.i x.m.cf,.i x.m.de,.i x.m.re,.i x.m.dr]) w'):
 ∃a7,(some (qw B))=some a7/\∃ay ac Z X Q O V a_ aw av ar,aM w (a7.add 14) 0 [.i ay,.slice ac Z X,.slice Q O V,.i a_,.i aw,.i av,.i ar]/\
   ∃J,bD (qw n5) 0 [.i ay,.slice ac Z X,.slice Q O V,.i a_,.i aw,.i av,.i ar] w J/\
   ∃a6 Y ap ag aa an U aT a8 ax az,aM J (qw n5) 0 [.i a6,.slice Y ap ag,.slice aa an U,.i aT,.i a8,.i ax,.i az]/\
   K (.agg #[.i a6,.slice Y ap ag,.slice aa an U,.i aT,.i a8,.i ax,.i az]) J:=by
 refine⟨_,rfl,_,_,_,_,_,_,_,_,_,_,_,Tu h,?_⟩;refine aX h5 rfl rfl λJ I bb=>?_;have I:bO J n5 #[.i x.m.dO,x.ms.v,x.ps.v,.i x.m.cf,.i x.m.de,.i x.m.re,.i x.m.dr]:=I;exact⟨_,_,_,_,_,_,_,_,_,_,_,⟨ae I rfl,ae I rfl,ae I rfl,ae I rfl,ae I rfl,ae I rfl,ae I rfl,trivial⟩,hk J bb⟩
theorem Cc.VA{b lrn:Int}(I:Cc K w0 w B L N cs b lrn x μ):Calls prog 64 #[cj x.pb] w λe w'=>∃r:Int,e=.returned (.i r)/\∃ (L':Nat->Nat) (O:Xs),Cc K w0 w' B L' N cs b lrn O μ/\Kp w0 w w' L L'/\JD N μ O=JD N μ x/\((r= -1/\dE O.s)\/∃i:Nat,r=i/\xN O.s i):=by
 refine(I.sr.run I.st.ci.g).mono ?_;rintro e Y⟨Z,rfl,J,V,Q,U,g',ex,X⟩;refine⟨_,rfl,V,{x with s:=J},⟨Q,I.st.run g' ex,I.IA,I.Dy,I.dO,?_,?_,?_,?_,?_,I.pt.run ex,?_,?_,I.hb,λhu=>?_⟩,U,?_,X⟩
 .have:=I.cf;show 0<=x.m.cf/\x.m.cf<=J.nc/\_;rw[ex.n];exact this
 .have:=I.de;show 0<=x.m.de/\x.m.de<=1000*x.m.cf+ (J.R .be).length;rw[ex.be];exact this
 .have:=I.re;show 0<=x.m.re/\x.m.re<=J.nc;rw[ex.n];exact this
 .have:=I.dr;show 0<=x.m.dr/\x.m.dr+x.hv.length<=J.nc;rw[ex.n];exact this
 .have:=I.pl;show x.pr.length+x.hv.length+2*cs.length<=2*J.nc;rw[ex.n];exact this
 .have:=I.nc;show J.nc+μ<=262143;rw[ex.n];exact this
 .have:=I.cn;show J.nc+μ<=_;rw[ex.n];exact this
 .obtain ⟨a,b,c⟩:=I.u0 hu;exact⟨by show J.R .be= [];rw[ex.be];exact a,b,by show J.nc=_;rw[ex.n];exact c⟩
 .show μ* (N+1)+ (N - (J.R .be).length)=_;rw[ex.be];rfl
theorem Cc.Vd{b lrn:Int}(I:Cc K w0 w B L N cs b lrn x μ)(hN:N<=1000)(O:dE x.s):Calls prog 65 #[cj B] w λe w'=>∃r:Bool,e=.returned (.bool r)/\∃ (L':Nat->Nat) (Y:Xs),Cc K w0 w' B L' N cs b lrn Y μ/\Kp w0 w w' L L'/\((r=false/\dE Y.s/\∀v:Int,1<=v->v<=N->Y.s.val v≠0)\/(r=true/\JD N μ Y<JD N μ x)):=by
 refine(GJ I.sr I.st.ci.g I.st.ci.v hN I.st.ph I.st.hi).mono ?_;rintro e ag⟨an,rfl,U,S',V,hd⟩;rcases hd with⟨rfl,ha,Q⟩| ⟨rfl,v,hv,Z,hi,Q⟩
 .exact ⟨_,rfl,U,{x with S:=S'},⟨Q,⟨I.st.ci,λv v1 v2 Z=>absurd Z (ha v v1 v2),I.st.ph,I.st.n,I.st.Ry,I.st.bX,I.st.pf,I.st.mo⟩,I.IA,I.Dy,I.dO,I.cf,I.de,I.re,I.dr,I.pl,I.pt,I.nc,I.cn,I.hb,I.u0⟩,V,.inl ⟨rfl,O,ha⟩⟩
 .have hv':dZ x.s.vars v:=by rw[I.st.ci.v];exact hv
  have J:=I.st.ci.decide O hv' Z;have enc:(x.s.decide v).nc=x.s.nc:=rfl;obtain⟨d1,d2⟩:=I.de;obtain⟨c1,c2,c3⟩:=I.cf;have X:=I.nc;have aa:((x.s.decide v).R .be).length=(x.s.R .be).length+1:=by rw[nO];simp
  have ap:((x.s.decide v).R .be).length<=N:=by have:=J.g.RK;have:=J.g.CQ;have:=J.v;omega
  have e1:IntKind.i64.wrap (x.m.de+1)=x.m.de+1:=ao (by omega) (by omega);refine⟨_,rfl,U,{x with s:=x.s.decide v,S:=S',m:= {x.m with de:=IntKind.i64.wrap (x.m.de+1)}},⟨Q,⟨J,hi,I.st.ph,I.st.n,I.st.Ry,I.st.bX,I.st.pf.decide,I.st.mo⟩,I.IA,I.Dy,I.dO,?_,?_,?_,?_,?_,I.pt.wL I.st O,?_,I.cn,I.hb,λhu=>absurd hu (Tn I.st.ci (I.u0 hu).2.2 (I.u0 hu).1 O)⟩,V,.inr ⟨rfl,?_⟩⟩
  .show 0<=x.m.cf/\x.m.cf<=(x.s.decide v).nc/\(0<=b->x.m.cf<=b)
   rw[enc];exact⟨c1,c2,c3⟩
  .show 0<=IntKind.i64.wrap (x.m.de+1)/\IntKind.i64.wrap (x.m.de+1)<=1000*x.m.cf+ (((x.s.decide v).R .be).length:Int)
   rw[e1,aa];omega
  .show 0<=x.m.re/\x.m.re<=(x.s.decide v).nc;rw[enc];exact I.re
  .show 0<=x.m.dr/\x.m.dr+x.hv.length<=(x.s.decide v).nc;rw[enc];exact I.dr
  .show x.pr.length+x.hv.length+2*cs.length<=2* (x.s.decide v).nc;rw[enc];exact I.pl
  .show (x.s.decide v).nc+μ<=262143;rw[enc];exact X
  .show μ* (N+1)+ (N - ((x.s.decide v).R .be).length)<μ* (N+1)+ (N - (x.s.R .be).length)
   exact Nat.add_lt_add_left (by omega) _
theorem Cc.drew{b lrn:Int}(I:Cc K w0 w B L N cs b lrn x μ):Cc K w0 w.drew B L N cs b lrn x μ:=⟨I.sr.drew,I.st,I.IA,I.Dy,I.dO,I.cf,I.de,I.re,I.dr,I.pl,I.pt,I.nc,I.cn,I.hb,I.u0⟩
theorem Cc.TX{b lrn:Int}(ok:TP K N lrn)(J:Cc K w0 w B L N cs b lrn x μ)(hN:N<=1000)(hB:xN x.s i)(r:0< (x.s.R .be).length)(U:0<=b->x.m.cf<b):
 Calls prog 69 #[cj B,.i i] w λe w'=>e=.returned (.tuple #[])/\∃ (L':Nat->Nat) (Y:Xs) (V:Nat),Cc K w0 w' B L' N cs b lrn Y V/\Kp w0 w w' L L'/\JD N V Y<JD N μ x:=by
 obtain⟨c1,c2,c3⟩:=J.cf;have a':=J.re;have ax:=J.pl;have ag:=J.dr;have ac:=J.nc;have bb:=J.de;have bf:=J.hb;have ar:=J.cn;have Z:=J.st.ci.g;have av:x.un.length<=2*N+2:=by
  obtain⟨_,_,_,_,_,_,_,_,_,_,h4,_⟩:=J.pt;have:=On J.st.ci λc hc=>by
   obtain⟨d,hd,rfl⟩:=LV.1 hc;exact h4 d hd
  rwa [We]at this
 have hq:((x.hv.length+1:Nat):Int)<Re.nZ lrn 100:=by
  rw[EI ok.hl (by omega)];have:=ok.hq;have:x.hv.length+1<QuP.quo lrn.toNat 100:=by omega
  exact Int.ofNat_lt.2 this
 have O:=J.st.bX;refine(E9 J.sr J.st hN ⟨by omega,by omega⟩ (by rw[J.IA];exact hq) hB r (by omega) (by omega) (by omega) (by omega) (by omega)).mono ?_;rintro e aa⟨rfl,L2,X,S2,k2,Q,C⟩;obtain⟨V,P',m'⟩:=J.pt.Fk ok J.IA Q C O (by omega) (λe=>by rw[e]at r;simp at r);refine⟨rfl,L2,X,V,⟨S2,Q,by rw[C.lrn];exact J.IA,by rw[C.AQ];exact J.Dy,by rw[C.dO];exact J.dO,?_,?_,?_,?_,?_,P',?_,?_,?_,λhu=>absurd (J.u0 hu).1 (λe=>by rw[e]at r;exact absurd r (by decide))⟩,k2,?_⟩
 .have h1:=C.nc;have I:=C.cf;rw[I];refine⟨by omega,by omega,λhb=>by have:=U hb;omega⟩
 .have h1:=C.de;have I:=C.cf;have aw:(x.s.R .be).length<=1000:=by have:=Z.RK;have:=Z.CQ;have:=J.st.ci.v;omega
  rw[h1,I];omega
 .have h1:=C.nc;have I:=C.re;omega
 .have h1:=C.nc;have I:=C.dr;omega
 .have h1:=C.nc;have I:=C.pl;omega
 .have h1:=C.nc;omega
 .have h1:=C.nc;omega
 .obtain ⟨h1,e1,e2⟩:=C.ch;have:h1<=x.hv.length+1:=by omega
  have:X.hv.length<=h1:=by omega
  omega
 .unfold JD;have I:(N - (X.s.R .be).length)<=N:=Nat.sub_le _ _;have h3:(V+1)* (N+1)<=μ* (N+1):=WQ _ m';rw[Zh]at h3;omega
theorem PR{b lrn:Int}{z:Nat}(U:z<=w0.heap.size){Q:Nat}{q:Sl}(J:Cc K w0 w1 B L1 N cs b lrn x μ)(hN:N<=1000)(O:dE x.s)(ha:∀v:Int,1<=v->v<=N->x.s.val v≠0)(S:SR w0 w B L N {x with m:= {x.m with dO:=1},ps:=Sl.nil,pr:= [],ms:=q,mo:=nG x.s N})(h5:Q<w0.heap.size)(m:aE (·=Q) w w'):
 Lc z w' N K.T cs b (.returned (.tuple #[.agg #[.i 1,.slice q.p q.n q.c,.slice none 0 0,.i x.m.cf,.i x.m.de,.i x.m.re,.i x.m.dr],.i 0])):=by
 obtain⟨d1,d2,d3⟩:=MG J.st.ci hN O ha;obtain⟨o1,o2,o3⟩:=S.mo id;have o2:q.n=(nG x.s N).length:=o2;have o1:d_ aB w q.p q.c (nG x.s N):=o1;refine⟨_,_,_,_,_,_,_,_,_,_,_,_,rfl,J.cf.1,J.de.1,J.re.1,J.dr.1,.inr (.inl ⟨rfl,rfl,rfl,J.cf.2.2,nG x.s N,o2,o1.vw.keep m λk I (e:k=Q)=>?_,λk I=>Wl U (o3 k I).2,d1,d2,d3⟩)⟩;have h1:=(o3 k I).2;omega
theorem KE{b lrn:Int}{z:Nat}(hz:z<=w0.heap.size){V:Nat}{q sl:Sl}(J:Cc K w0 w1 B L1 N cs b lrn x μ)(hB:xN x.s i)(Y:x.s.R .be= [])(S:SR w0 w B L N {x with m:= {x.m with dO:=2},ps:=q,pr:=x.pr++ [(false,sl,[])]})(h5:V<w0.heap.size)(hL:∀j,j<w0.heap.size->L j=4)(m:aE (·=V) w w'):
 Lc z w' N K.T cs b (.returned (.tuple #[.agg #[.i 2,.slice x.ms.p x.ms.n x.ms.c,.slice q.p q.n q.c,.i x.m.cf,.i x.m.de,.i x.m.re,.i x.m.dr],.i 0])):=by
 obtain⟨o1,o2,o3⟩:=S.mo id;obtain⟨I,Q,Z⟩:=S.pr id;have Q:q.n=(x.pr++ [(false,sl,[])]).length:=Q;have I:Row 2 Tp kN w q.p q.c (x.pr++ [(false,sl,[])]):=I;have o2:x.ms.n=x.mo.length:=o2;have fr:∀j,w0.heap.size<=j->z<=j/\j≠V:=λj O=>by omega
 have f9:∀j,L j=9->w0.heap.size<=j:=λj h=>Nat.le_of_not_lt λU=>by rw[hL j U]at h;exact absurd h (by decide)
 refine⟨_,_,_,_,_,_,_,_,_,_,_,_,rfl,J.cf.1,J.de.1,J.re.1,J.dr.1,.inr (.inr ⟨rfl,rfl,by rw[o2,J.st.mo];rfl,J.cf.2.2,G1 J.st.ci hB Y,x.pr++ [(false,sl,[])],Q,⟨(I.vr Oz).keep m λk X=> (fr k (Z k X).2).2,λv hv=>?_,λ_ j O=> (fr j (Z j O).2).1,λv hv j O=> (fr j (f9 j ((S.rr id v hv).l j O).1)).1⟩,?_⟩)⟩
 .have ro:=S.rr id v hv;exact⟨ro.n,ro.v.keep m λk X=> (fr k (f9 k (ro.l k X).1)).2⟩
 .rw [GD];have:=PF.eh J.st.pf J.st.ci.g hB Y;rw[J.st.ci.v]at this;have h1:=J.pl;have h2:=J.cn;have h3:=I.cap;rw[I',WG]at h3 Q ⊢;exact⟨this,by omega,by omega,λhu=>by rw[(J.u0 hu).2.1];rfl⟩
theorem LQ{b yV lrn:Int}{q:sn}{m d I pb hb n49:Nat}{s:aH}{H:Pt->Sl}{z:Hp.HS}(G:ak w0 w)(Y:I=w0.heap.size+1)(hN:N<=1000)
 (h:bO w I (Xs.cells {m:=⟨N,⟨q,m,d⟩,b,yV,lrn,yV,1,yV,0,0,0,0,0,0⟩,pb:=pb,hb:=hb,Jf:=⟨some ⟨w0.heap.size,0,none⟩,N+1,N+1⟩,hs:=Sl.nil,us:=Sl.nil,ps:=Sl.nil,ms:=Sl.nil,s:=s,S:=λ_=>True,ph:=List.replicate (N+1) 0,hv:= [],un:= [],pr:= [],mo:= []}))
 (pm:PM w pb H s) (U:∀y k,own pb H y=some k->I<k/\k<n49) (hr:Hp.cN w hb z) (hf:Hp.zK z N N) (O:∀k,z.bK hb k->n49<=k) (hn:I<n49) (o:d_ aB w (some ⟨w0.heap.size,0,none⟩) (N+1) (List.replicate (N+1) 0)) (Z:aL s) (nd:Lv N cs s) (ok:TP K N lrn) (V:yV=K.u) (X:cs.length+K.T<=262143):
 ∃μ,Cc K w0 w I (λk=>if k<I then 4 else if k=I then 1 else if k<n49 then 2 else 3) N cs b lrn {m:=⟨N,⟨q,m,d⟩,b,yV,lrn,yV,1,yV,0,0,0,0,0,0⟩,pb:=pb,hb:=hb,Jf:=⟨some ⟨w0.heap.size,0,none⟩,N+1,N+1⟩,hs:=Sl.nil,us:=Sl.nil,ps:=Sl.nil,ms:=Sl.nil,s:=s,S:=λ_=>True,ph:=List.replicate (N+1) 0,hv:= [],un:= [],pr:= [],mo:= []} μ:=by
 obtain⟨μ,P,hμ⟩:=IT.new (x:= {m:=⟨N,⟨q,m,d⟩,b,yV,lrn,yV,1,yV,0,0,0,0,0,0⟩,pb:=pb,hb:=hb,Jf:=⟨some ⟨w0.heap.size,0,none⟩,N+1,N+1⟩,hs:=Sl.nil,us:=Sl.nil,ps:=Sl.nil,ms:=Sl.nil,s:=s,S:=λ_=>True,ph:=List.replicate (N+1) 0,hv:= [],un:= [],pr:= [],mo:= []}) ok nd.be nd.v V rfl V rfl rfl rfl;have hT:=ok.ht;refine⟨μ,?_⟩;have nn:∀k,aF (none:sn)≠some k:=λk J=>by simp[aF]at J
 have hl:=h.lt;have Q:=nd.n;refine⟨⟨G,λ_=>h,⟨?_,by omega,hl⟩,λ_=>⟨H,pm,λy k J=>⟨?_,?_⟩⟩,λ_=>⟨z,hr,hf.Vm (by omega),λv v1 v2=>?_,λk J=>⟨?_,?_⟩⟩,λ_=>⟨o,by simp,λk J=>?_⟩,λ_=>⟨Row.nil _ _ _ _,rfl,λk J=>absurd J (nn k)⟩,λ_ u hu=>by simp at hu,λ_=>⟨Ow.nil _ _ _,rfl,λk J=>absurd J (nn k)⟩,λ_ u hu=>by simp at hu,λ_=>⟨Row.nil _ _ _ _,rfl,λk J=>absurd J (nn k)⟩,λ_ u hu=>by simp at hu,λ_=>⟨Ow.nil _ _ _,rfl,λk J=>absurd J (nn k)⟩⟩,
  ⟨Rf nd Z,Py λ_=>trivial,by simp,rfl,by simp,⟨Ww _,by show (0:Int)<=100;decide⟩,PF.new nd,rfl⟩,rfl,rfl,rfl,⟨Ww _,by show (0:Int)<=(s.nc:Int);omega,λh=>h⟩,⟨Ww _,by show (0:Int)<=1000*0+ ((s.R .be).length:Int);omega⟩,⟨Ww _,by show (0:Int)<=(s.nc:Int);omega⟩,⟨Ww _,by show (0:Int)+ ((0:Nat):Int)<=(s.nc:Int);omega⟩,by show 0+0+2*cs.length<=2*s.nc;omega,P,?_,by show s.nc+μ<=_;omega,by show 0+μ<=_;omega,λ_=>⟨nd.be,rfl,nd.n⟩⟩
 .show (if I<I then 4 else if I=I then 1 else _)=1;rw[r8 (by omega),v8 rfl]
 .have h1:=U y k J;show (if k<I then 4 else if k=I then 1 else if k<n49 then 2 else 3)=2;rw[r8 (by omega),r8 (by omega),v8 (by omega)]
 .have h1:=U y k J;omega
 .rw [hf.au v (by omega) (by omega),v8 v2];exact⟨λ_=>trivial,λ_=>by omega⟩
 .have h1:=O k J;show (if k<I then 4 else if k=I then 1 else if k<n49 then 2 else 3)=3;rw[r8 (by omega),r8 (by omega),r8 (by omega)]
 .have h1:=O k J;omega
 .have h1:=aO J;subst h1;refine⟨?_,vy _⟩;show (if w0.heap.size<I then 4 else _)=4;rw[v8 (by omega)]
 .show s.nc+μ<=_;omega
theorem FT{k b yV lrn:Int}{q:sn}{m d:Nat}{hs:List Sl}(hc:V2 sT w q hs cs)(hm:m=cs.length)(b':c5 k cs=true)(av:Fu yV lrn=true)(U:k=N)(hN:N<=1000)(ok:TP K N lrn)(hK:yV=K.u)(d9:cs.length+K.T<=262143):
 Calls prog 32 #[.agg #[.i k,.slice q m d],.agg #[.i b,.i yV,.i lrn]] w λe w'=>Lc w.heap.size w' N K.T cs b e/\ak w w':=by
 subst U;refine kj.aj ?_;intro n1 w2 h2 n3 w4 h4 n5 w6 h6;have G6:=(h2.mod.trans h4.mod).trans h6.mod;have A1:=(h2.has.grow h4.mod).grow h6.mod;have A3:=h4.has.grow h6.mod;have e1:=h2.num;have e3:=h4.num;have e5:=h6.num;have s2:=h2.size;have s4:=h4.size;have s6:=h6.size;refine⟨_,_,_,_,⟨ae A1 rfl,ae A1 rfl,trivial⟩,(eP (hc.grow G6) hm).mono ?_⟩;rintro e w9⟨rfl,g9⟩;rw[b'];refine⟨_,rfl,bq rfl ⟨_,_,_,⟨ae (A3.grow g9) rfl,ae (A3.grow g9) rfl,ae (A3.grow g9) rfl,trivial⟩,(JQ _ _ _ _).mono ?_⟩⟩;rintro e a6⟨rfl,ea⟩;rw[av];have gd:ak a6 a6.drew:=(aE.refl a6).drew;have X:=(g9.trans ea).trans gd;have V0:=(hc.grow G6).grow X;have B1:=A1.grow X;have B3:=A3.grow X;have B5:=h6.has.grow X;have es:=X.size;obtain⟨w0,c0⟩: ∃w0,w0=a6.drew:=⟨_,rfl⟩
 have Gw:ak w w0:=by rw[c0];exact G6.trans X
 try dsimp only
 rw[<- c0]at B1 B3 B5 V0 es ⊢;refine⟨_,rfl,bq rfl ⟨ak w0,aE.refl _,_,_,_,_,λv gv=>⟨ae (B1.grow gv) rfl,ae (B1.grow gv) rfl,trivial⟩,_,_,_,λv gv=>⟨ae (B3.grow gv) rfl,ae (B3.grow gv) rfl,ae (B3.grow gv) rfl,trivial⟩,_,λv gv=>ae (B1.grow gv) rfl,?_⟩⟩;have e0:IntKind.i64.wrap ((N:Int)+1)=((N+1:Nat):Int):=by rw[ao (by omega) (by omega)];omega
 try dsimp only
 rw[e0];refine ra yK Re.iC (x:=(0:Int)) rfl (N+1) rfl (by omega) λfu ei c4 z39=>⟨c4,λO e7 Y=>?_⟩
 have fL:=Y.num;have gb:=Y.size;have az:=c4.trans Y.mod;refine⟨_,_,_,_,⟨ae (B1.grow az) rfl,ae (B1.grow az) rfl,trivial⟩,(zX (V0.grow az) hm).mono ?_⟩;rintro e e6 (⟨dd,_,_⟩| ⟨_,pb,s,H,rfl,pm,gs,nd,aT,hH⟩)
 .rw [b']at dd;exact absurd dd (by decide)
 rw[tn]at nd;have fi:=aT.size;have eT:=Y.has.lt;refine⟨_,_,rfl,_,rfl,?_⟩;refine cz (Y.has.grow aT) rfl rfl λc2 cp a8=>?_;have gk:=a8.size;have bk:=pm.keep a8 λy k U (e:k=O)=>by have:=hH y k U;omega
 have cr:ak w0 c2:=(az.trans aT).then a8 λk U e=>by omega
 refine⟨_,ae (B1.grow cr) rfl,(Hp.zX N (by omega)).mono ?_⟩;rintro e e2⟨hb,z,rfl,hr,hf,bx,ar⟩;have fq:=ar.size;refine⟨_,_,rfl,_,rfl,?_⟩;refine cz (cp.grow ar) rfl rfl λec co an=>?_;have fm:=an.size;have bi:=(bk.grow ar).keep an λy k U (e:k=O)=>by have:=hH y k U;omega
 have bb:=hr.keep an λk U (e:k=O)=>by have:=bx k U;omega
 have cT:ak w0 ec:=(cr.trans ar).then an λk U e=>by omega
 refine⟨_,ae (B3.grow cT) rfl,(Lu.HJ _ _).mono ?_⟩;rintro e fo⟨rfl,Z⟩;have f0:=Z.size;have el:1<=yV/\yV<=1048576:=by
  unfold Fu at av;simp only[x7]at av;omega
 rw[v8 el];refine⟨_,_,_,_,rfl,_,rfl,?_⟩;refine cz (co.grow Z) rfl rfl λb9 c1 ac=>?_;have a':=(bi.grow Z).keep ac λy k U (e:k=O)=>by have:=hH y k U;omega
 have bu:=(bb.grow Z).keep ac λk U (e:k=O)=>by have:=bx k U;omega
 have et:ak w0 b9:=(cT.trans Z).then ac λk U e=>by omega
 have fj:=ac.size;have c3:d_ aB b9 (some ⟨w0.heap.size,0,none⟩) (N+1) (List.replicate (N+1) 0):=((((((ei.grow Y.mod).grow aT).keep a8 λk U (e:k=O)=>by have:=aO U;omega).grow ar).keep an λk U (e:k=O)=>by have:=aO U;omega).grow Z).keep ac λk U (e:k=O)=>by have:=aO U;omega
 obtain⟨μ0,dh⟩:=LQ (cs:=cs) (b:=b) (lrn:=lrn) (n49:=c2.heap.size) et (by omega) hN c1 a' (λy k U=>by have:=hH y k U;have:=pm.lt y k U;omega) bu hf bx (by omega) c3 gs nd ok hK d9;clear c1 a' bu c3 co bi bb cp bk hr hf;refine⟨λu z=>∃ (L:Nat->Nat) (x:Xs) (μ:Nat),Cc K w0 u O L N cs b lrn x μ/\(∀j,j<w0.heap.size->L j=4)/\z=JD N μ x,⟨_,_,_,_,dh,λj hj=>by show (if j<O then 4 else _)=4;rw[v8 (by omega)],rfl⟩,?_⟩;clear dh;have l5:n5<w0.heap.size:=B5.lt;rintro fk gm _⟨L,x,μ,I,eg,rfl⟩;have lb:∀ {u v:World} {L1 L2:Nat->Nat},ak w0 u->Kp w0 u v L1 L2->(∀j,j<w0.heap.size->L1 j=4)->(∀j,j<w0.heap.size->L2 j=4):=λgu k h j hj=>by rw[k.EC j (Xg hj gu.size)];exact h j hj
 have gW:∀ {u v:World} {L2:Nat->Nat} {y:Xs},SR w0 u O L2 N y->aE (·=n5) u v->ak w v:=λS m=>aE.cE (Gw.trans S.g) m (by omega);refine⟨_,rfl,_,ae I.sr.at rfl,I.VA.mono ?_⟩;rintro e fs⟨ax,rfl,d',ef,a_,ed,ew,hh⟩;have ap:=lb I.sr.g ed eg;refine⟨_,rfl,λv u=> (v=true/\ax<0/\∃L1 Q μ1,Cc K w0 u O L1 N cs b lrn Q μ1/\(∀j,j<w0.heap.size->L1 j=4)/\dE Q.s/\∀v:Int,1<=v->v<=N->Q.s.val v≠0)\/(v=false/\ax<0/\∃L1 Q μ1,Cc K w0 u O L1 N cs b lrn Q μ1/\(∀j,j<w0.heap.size->L1 j=4)/\JD N μ1 Q<JD N μ x)\/(v=false/\∃ (L1:Nat->Nat) (Q:Xs) (μ1 i:Nat),Cc K w0 u O L1 N cs b lrn Q μ1/\(∀j,j<w0.heap.size->L1 j=4)/\JD N μ1 Q=JD N μ x/\ax=i/\xN Q.s i),?_,?_⟩
 .refine ah (λr=>?_) (λr=>?_)
  .have r:ax<0:=by simpa using r
   have b4:dE ef.s:=by
    rcases hh with⟨_,c⟩| ⟨i,e,_⟩
    .exact c
    .omega
   refine(a_.Vd hN b4).mono ?_;rintro e gl⟨fC,rfl,ce,b_,c7,du,hd⟩;refine⟨_,rfl,?_⟩;rcases hd with⟨rfl,er,ha⟩| ⟨rfl,b3⟩
   .exact .inl ⟨rfl,r,ce,b_,_,c7,lb a_.sr.g du ap,er,ha⟩
   .exact .inr (.inl ⟨rfl,r,ce,b_,_,c7,lb a_.sr.g du ap,by omega⟩)
  .have r: ¬ax<0:=by simpa using r
   rcases hh with⟨e,_⟩| ⟨i,e,hB⟩
   .omega
   .exact .inr (.inr ⟨rfl,d',_,_,i,a_,ap,ew,e,hB⟩)
 .rintro fy e' _ (⟨rfl,_,L1,Q,μ1,J,aa,b4,ha⟩| ⟨rfl,r,L1,Q,μ1,J,aa,b3⟩| ⟨rfl,L1,Q,μ1,i,J,aa,gf,rfl,hB⟩)
  .refine bJ rfl ((P5 J.sr J.st.ci.g J.st.ci.v hN J.st.n J.st.mo).mono ?_);rintro e gg⟨rfl,f',e8,a7,fA⟩;exact⟨rfl,Oi (K:=λv w'=>Lc w.heap.size w' N K.T cs b (.returned (.tuple #[v,.i 0]))/\ak w w') a7.at (B5.grow a7.g) λw' m'=>⟨PR (x:=Q) Gw.size J hN b4 ha a7 l5 m',gW a7 m'⟩⟩
  .exact bq rfl (bJ (by simpa using r) ⟨_,b3,L1,Q,_,J,aa,rfl⟩)
  .obtain ⟨H1,eu,_⟩:=J.sr.pm id;refine bq rfl (bq (by simp) ⟨_,rfl,_,ae J.sr.at rfl,(KQ eu).mono ?_⟩);rintro e ej⟨rfl,rfl⟩;refine⟨_,rfl,ah (λr=>?_) (λr=>?_)⟩
   .have r:(Q.s.R .be).length=0:=by simpa using r
    have r:Q.s.R .be= []:=Wa r;have fa:=J.pl;have eR:=J.nc;refine(IX J.sr (by omega) (l:= []) (p:=none) (n:=0) (c:=0) Vw.nil rfl (by omega)).mono ?_;rintro e f1⟨rfl,fd,fh,eL,bY,ek⟩;refine⟨rfl,_,rfl,?_⟩;refine iK bY.at rfl rfl λeN dk cb=>?_;obtain⟨V,dA⟩:=bY.own (m':= {Q.m with dO:=2}) dk cb;exact Oi (K:=λv w'=>Lc w.heap.size w' N K.T cs b (.returned (.tuple #[v,.i 0]))/\ak w w') V.at (B5.grow V.g) λw' m'=>⟨KE (x:=Q) Gw.size J hB r V l5 (lb bY.g dA (lb J.sr.g ek aa)) m',gW V m'⟩
   .have r:0< (Q.s.R .be).length:=by
     rcases Wt (Q.s.R .be).length with e|e
     .rw [e]at r;simp at r
     .exact e
    have D:=J.drew;have Dy:=J.Dy;have Fk:(0<=b->Q.m.cf<b)->Calls prog 69 #[.pointer (some (qw O)),.i i] ej.drew λe bn=>e=.returned (.tuple #[])/\∃cm,cm<JD N μ x/\∃ (L:Nat->Nat) (x:Xs) (μ:Nat),Cc K w0 bn O L N cs b lrn x μ/\(∀j,j<w0.heap.size->L j=4)/\cm=JD N μ x:=by
     intro b8;refine(D.TX ok hN hB r b8).mono ?_;rintro e bn⟨rfl,L2,x2,μ2,I2,k2,b3⟩;exact⟨rfl,_,by omega,L2,x2,μ2,I2,lb D.sr.g k2 aa,rfl⟩
    refine⟨_,rfl,_,bN D.sr.at rfl,?_⟩;rw[Dy];refine ah (λrb=>?_) (λrb=>?_)
    .have rb:0<=b:=by simpa using rb
     refine⟨_,rfl,_,bN D.sr.at rfl,_,rfl,_,bN D.sr.at rfl,?_⟩;rw[Dy];refine ah (λrc=>?_) (λrc=>?_)
     .have rc:b<=Q.m.cf:=by simpa using rc
      refine⟨_,rfl,?_⟩;refine iK D.sr.at rfl rfl λbg aw dc=>?_;have aw:bO bg O ({Q with ps:=Sl.nil}:Xs).cells:=aw;have ag:ak w0 bg:=D.sr.g.then dc λk U (e:k=O)=>by omega
      obtain⟨o1,o2,o3⟩:=D.sr.mo id;refine Oi (K:=λv w'=>Lc w.heap.size w' N K.T cs b (.returned (.tuple #[v,.i 6]))/\ak w w') aw (B5.grow ag) λw' m'=>⟨?_,aE.cE (Gw.trans ag) m' (by omega)⟩
      have:=J.cf.2.2 rb;exact⟨_,_,_,_,_,_,_,_,_,_,_,_,rfl,J.cf.1,J.de.1,J.re.1,J.dr.1,.inl ⟨rfl,J.dO,by show Q.ms.n=0;rw[o2,J.st.mo];rfl,rfl,rb,by show Q.m.cf=b;omega⟩⟩
     .have rc: ¬b<=Q.m.cf:=by simpa using rc
      exact Fk λ_=>by omega
    .have rb: ¬0<=b:=by simpa using rb
     exact Fk λh=>absurd h rb
end
