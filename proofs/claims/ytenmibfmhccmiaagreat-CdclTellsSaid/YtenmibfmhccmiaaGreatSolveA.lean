/- Layer 14: the search: its parts. -/
import Derived.Test.YtenmibfmhccmiaaGreatPfA
namespace Go.Proofs.YtenmibfmhccmiaaGreat.W
open Go Go.Fw Go.RowKit Go.SoP Go.LiP Go.LeP
open Go.Proofs.Tryz (prog)
section
variable {w0 w w' w1 w2 u:World} {B N i:Nat} {L L' L1:Nat->Nat} {x:Xs} {l:List Int} {cs:List (List Int)} {hv:List (Nat × List Int)} {un:List (List Int)}
def oS (u l:Int):Bool:=decide (1<=u/\u<=1048576/\1<=l/\l<=1048576)
theorem Dg (b u l:Int) (w:World):Calls prog jj.id #[.agg #[.int .i64 b,.int .i64 u,.int .i64 l]] w fun e w'=>e= .returned (.int .i64 (if oS u l then 0 else 1))/\aq w w':=by
 refine jj.ah ?_;intro V w2 I;have R: ∀ {r:Int},r=(if oS u l then 0 else 1)->Ending.returned (.int .i64 r)= .returned (.int .i64 (if oS u l then 0 else 1))/\aq w w2:=fun e=> ⟨by rw [e],I.mod⟩
 have F: ¬(1<=u/\u<=1048576/\1<=l/\l<=1048576)->(1:Int)=(if oS u l then 0 else 1):=fun h=>by unfold oS;rw [decide_eq_false h];rfl
 refine ⟨_,ad I.has rfl,ao (fun U=>R (F ?_)) (fun U=> ⟨_,ad I.has rfl,ao (fun O=>R (F ?_)) (fun O=> ⟨_,ad I.has rfl,ao (fun J=>R (F ?_)) (fun J=> ⟨_,ad I.has rfl,ao (fun Q=>R (F ?_)) (fun Q=>R ?_)⟩)⟩)⟩)⟩;all_goals simp only [decide_eq_true_eq,decide_eq_false_iff_not] at*
 all_goals first|omega|skip
 unfold oS;rw [decide_eq_true (by omega)];rfl
theorem SR.run (h:SR w0 w B L N x) (g:aM x.s):Calls prog dQ.id #[bR x.pb] w fun e w'=> ∃r:Int,e= .returned (.int .i64 r)/\∃I L',SR w0 w' B L' N {x with s:=I}/\Kp w0 w w' L L'/\aM I/\iq x.s I/\((r= -1/\dM I)\/∃i:Nat,r=i/\sU I i):=by
 obtain ⟨H,pm,hl⟩:=h.pm id;refine (Ey pm g).mono ?_;rintro e w' ⟨r,rfl,I,Q,p,J,ex,O⟩;have:=h.sg hl pm.lt p;exact ⟨r,rfl,I,_,this.1,this.2,J,ex,O⟩
theorem lV.run (st:lV N cs x) {I:aG} (J:aM I) (e:iq x.s I):lV N cs {x with s:=I}:=
 ⟨st.ci.run e J,st.hi.run st.ci e J,st.ph,st.n,st.Jm,st.bB,st.pf.ext e,st.mo⟩
structure KP where
 D:Nat
 wB:Nat
 C:Nat
 u:Nat
 T:Nat
def KP.lS (K:KP) (N:Nat) (lrn:Int):Nat:=if 0<K.wB then QuP.quo lrn.toNat 0+ (2*N+2)+PotP.MA (QuP.quo lrn.toNat) (K.wB - 1) 0+ (K.D+K.C) else K.C
structure KX (K:KP) (N:Nat) (lrn:Int):Prop where
 hu:1<=K.u/\K.u<=1048576
 hl:1<=lrn/\lrn<=1048576
 hN:2 ^ (N - 1)<=K.D
 hC: ∀a l,1<=a->l<=K.u*Luby.ig a->∃n,PotP.Tl K.D K.u a l n/\n<=K.C
 hD: ∀w,K.wB<=w->K.D<=QuP.quo lrn.toNat w - PotP.qp (QuP.quo lrn.toNat) w
 hq:K.T+1<QuP.quo lrn.toNat 100
 ht:K.lS N lrn<=K.T
def Ct (K:KP) (N:Nat) (lrn:Int) (x:Xs) (μ:Nat):Prop:= ∃β r a l:Nat,uW x.s β/\x.m.pu=K.u/\x.m.pa=a/\x.m.pl=l/\(∀c∈x.un,c.2.length<=1)/\a<=x.s.nc+1/\
 PotP.Md K.D K.wB K.C K.u (2*N+2) (QuP.quo lrn.toNat) x.m.bB.toNat x.hv.length x.un.length a l β r μ
theorem Ct.new {K:KP} {lrn:Int} (ok:KX K N lrn) (X:x.s.R .be= []) (hv:x.s.vars=N) (h1:x.m.pu=K.u) (Q:x.m.pa=1) (Z:x.m.pl=K.u) (J:x.un= []) (O:x.hv= []) (Y:x.m.bB=0): ∃μ,Ct K N lrn x μ/\μ<=K.lS N lrn:=by
 have hu:=ok.hu;have hl:=ok.hl;have l1:Luby.ig 1=1:=by have:=Luby.iW 0;simpa using this
 have q0:QuP.quo lrn.toNat 0=lrn.toNat:=rfl;have hN:=ok.hN;have U:=Nat.two_pow_pos (N - 1);have I:K.u<=K.u*Luby.ig 1:=by rw [l1];omega
 have V:K.u*Luby.ig 1 - K.u=0:=by rw [l1];omega
 have mk: ∀μ,((0<K.wB/\μ=(QuP.quo lrn.toNat 0 - 0)+ (2*N+2 - 0)+PotP.MA (QuP.quo lrn.toNat) (K.wB - 1 - 0) 0+ (K.D+K.C))\/
  (K.wB<=0/\0<=PotP.qp (QuP.quo lrn.toNat) 0+0/\((K.u*Luby.ig 1 - K.u<=0+K.D/\PotP.Tl K.D K.u 1 K.u μ/\μ<=K.C)\/(0+K.D<K.u*Luby.ig 1 - K.u/\μ=(K.D - 0)+K.C))))->Ct K N lrn x μ:=by
  intro μ hp;refine ⟨2 ^ (N - 1) - 1,0,1,K.u,uW.zero X hv,h1,Q,Z,by rw [J];simp,by omega,?_⟩;rw [J,O,Y];exact ⟨hu.1,I,Nat.le_refl _,by rw [V];omega,by show 0<QuP.quo lrn.toNat 0;omega,hp⟩
 by_cases e:0<K.wB
 . refine ⟨_,mk _ (.inl ⟨e,rfl⟩),?_⟩;unfold KP.lS;rw [if_pos e];exact Nat.le_refl _
 . obtain ⟨n,t,hn⟩:=ok.hC 1 K.u (Nat.le_refl _) I;refine ⟨n,mk n (.inr ⟨by omega,Nat.zero_le _,.inl ⟨by omega,t,hn⟩⟩),?_⟩;unfold KP.lS;rw [if_neg e];exact hn
theorem uo {lrn bB:Int} (h:1<=lrn/\lrn<=1048576) (I:0<=bB/\bB<=100):Re.jK lrn bB=(QuP.quo lrn.toNat bB.toNat:Nat):=by
 unfold Re.jK;rw [if_pos (by unfold Re.vg;exact decide_eq_true ⟨h.1,h.2,I.1,I.2⟩)]
theorem E4 {s:aG} (k:ni N cs s hv un) (h: ∀c∈un,c.length<=1):un.length<=2*N+2:=by
 have I:=k.dn;rw [List.map_append] at I;have I:=(List.nodup_append.1 I).2.1;have hs:=List.Nodup.length_le_of_subset I (l₂:=([]::(List.range (2*N+1)).map fun (j:Nat)=> [(j:Int) - N]).map fun c=>qQ c N) fun y O=>by
  obtain ⟨c,J,rfl⟩:=List.mem_map.1 O;refine List.mem_map.2 ⟨c,?_,rfl⟩;have h1:=h c J
  match c,h1,J with
  | [],_,_=>exact List.mem_cons_self
  | [z],_,J=>
    obtain ⟨U,Q,V⟩:=(k.ok [z] (List.mem_append_right _ J)).qD z (by simp);refine List.mem_cons_of_mem _ (List.mem_map.2 ⟨(z+N).toNat,List.mem_range.2 (by omega),?_⟩);show [((z+N).toNat:Int) - N]= [z]
    rw [show ((z+N).toNat:Int) - N=z by omega]
  |_::_::_,h1,_=>simp at h1
 simpa using hs
theorem uW.mono {s:aG} {β γ:Nat} (h:uW s β) (e:β<=γ):uW s γ:=fun u a b c=>Nat.le_trans (h u a b c) e
theorem Ct.run {K:KP} {lrn:Int} {μ:Nat} (P:Ct K N lrn x μ) {I:aG} (e:iq x.s I):Ct K N lrn {x with s:=I} μ:=by
 obtain ⟨β,r,a,l,rb,h1,J,O,Q,h5,p⟩:=P;exact ⟨β,r,a,l,rb.run e,h1,J,O,Q,by show a<=I.nc+1;rw [e.n];exact h5,p⟩
theorem Ct.sE {K:KP} {lrn:Int} {μ:Nat} (P:Ct K N lrn x μ) (g:aM x.s) (O:dM x.s) {v de:Int} {S':Int->Prop}:Ct K N lrn {x with s:=x.s.decide v,S:=S',m:= {x.m with de:=de}} μ:=by
 obtain ⟨β,r,a,l,rb,h1,I,J,Q,h5,p⟩:=P;exact ⟨β,r,a,l,uW.decide (rb.fI g (.inl O)),h1,I,J,Q,h5,p⟩
theorem Ct.El {K:KP} {lrn:Int} {μ:Nat} {I:Xs} (ok:KX K N lrn) (P:Ct K N lrn x μ) (hl:x.m.lrn=lrn) (Z:lV N cs I) (C:MH N x I) (hw:0<=x.m.bB/\x.m.bB<=100) (bx:x.s.nc<=262143): ∃μ',Ct K N lrn I μ'/\μ'+1<=μ:=by
 obtain ⟨β,r,a,l,rb,h1,h2,h3,h4,h5,p⟩:=P;obtain ⟨b1,b2⟩:=C.rb β rb;obtain ⟨u1,u2⟩:=ok.hu;have KZ:Lu.Aq (K.u:Int) (a:Int) (l:Int):=by
  have:=p.l1;have:=p.a1;have h:=p.l2;refine ⟨by omega,by omega,by omega,by omega,by omega,?_⟩;rw [Int.toNat_natCast,<- Int.natCast_mul];exact Int.ofNat_le.2 h
 obtain ⟨c1,c2,c3⟩:=C.pc;have bz:=C.bz;rw [h1,h2,h3] at c1 c2 c3 bz b2;unfold Lu.m_ at c1;rw [if_pos KZ] at c1;have ap:(a:Int)≠1073741824:=by omega
 have ax:Lu.mi (K.u:Int) a l=decide (l=1):=by
  unfold Lu.mi;rw [decide_eq_true KZ,Bool.true_and];exact decide_eq_decide.2 (by omega)
 rw [ax] at bz b2;have aa:I.m.pa=((if 1<l then a else a+1:Nat):Int):=by
  rw [c2];unfold Lu.jU;rw [if_pos KZ];by_cases e:1<l
  . rw [if_pos (by omega),if_pos e]
  . rw [if_neg (by omega),if_neg ap,if_neg e];rfl
 have aw:I.m.pl=((if 1<l then l - 1 else K.u*Luby.ig (a+1):Nat):Int):=by
  rw [c3,show Lu.mf (K.u:Int) a l=if 1< (l:Int) then (l:Int) - 1 else (K.u:Int)* (Luby.ig (Lu.jU (K.u:Int) a l).toNat:Int) by unfold Lu.mf;rw [if_pos KZ],<- c2,aa];by_cases e:1<l
  . rw [if_pos (by omega),if_pos e];omega
  . rw [if_neg (by omega),if_neg e,if_neg e,Int.toNat_natCast,Int.natCast_mul]
 obtain ⟨V,ac,J⟩:=C.ch;have U: ∀c∈I.un,c.2.length<=1:=by
  intro c O;rcases ac with ⟨_,e⟩| ⟨_,d,hd,e⟩
  . rw [e] at O;exact h4 c O
  . rw [e] at O;rcases List.mem_append.1 O with O|O
    . exact h4 c O
    . rw [List.mem_singleton] at O;subst O;exact hd
 have hU:=E4 Z.ci (fun c O=>by
  obtain ⟨d,hd,rfl⟩:=List.mem_map.1 O;exact U d hd)
 rw [List.length_map] at hU;have enc:=C.nc;have bk:1<=K.D:=by have:=p.p2;omega
 rw [hl] at J;have Q:=uo ok.hl hw;have q1: ∀w,1<=QuP.quo lrn.toNat w:=fun w=>Nat.le_trans (by have:=ok.hl;show 1<=QuP.quo lrn.toNat 0;show 1<=lrn.toNat;omega) (QuP.ua _ 0 w (by omega));have qs: ∀w,QuP.quo lrn.toNat w<QuP.quo lrn.toNat (w+1):=fun w=>by show _<QuP.quo _ w+QuP.quo _ w / 10+1;omega
 have b6:=q1 x.m.bB.toNat;have A1:(decide (l=1)=true/\l=1/\(if 1<l then a else a+1)=a+1/\(if 1<l then l - 1 else K.u*Luby.ig (a+1))=K.u*Luby.ig (a+1))\/(decide (l=1)=false/\1<l/\(if 1<l then a else a+1)=a/\(if 1<l then l - 1 else K.u*Luby.ig (a+1))=l - 1):=by
  have:=p.l1;by_cases e:l=1
  . exact .inl ⟨decide_eq_true e,e,if_neg (by omega),if_neg (by omega)⟩
  . exact .inr ⟨decide_eq_false e,by omega,if_pos (by omega),if_pos (by omega)⟩
 have A2:(V=x.hv.length+1/\I.un.length=x.un.length)\/(V=x.hv.length/\I.un.length=x.un.length+1/\I.un.length<=2*N+2):=by
  rcases ac with ⟨Y,e⟩| ⟨Y,d,_,e⟩
  . exact .inl ⟨Y,by rw [e]⟩
  . exact .inr ⟨Y,by rw [e];simp,hU⟩
 have A3:(decide (I.m.bB=x.m.bB+1)=false/\I.m.bB.toNat=x.m.bB.toNat/\I.hv.length=V/\V<QuP.quo lrn.toNat x.m.bB.toNat)\/(decide (I.m.bB=x.m.bB+1)=true/\I.m.bB.toNat=x.m.bB.toNat+1/\QuP.quo lrn.toNat x.m.bB.toNat<=V/\I.hv.length<=V/\V<=2*I.hv.length+1):=by
  unfold BA at J;rw [Q] at J;rcases J with ⟨Y,X,e3⟩| ⟨e0,Y,X,e3,e4⟩
  . exact .inl ⟨decide_eq_false (by omega),by rw [Y],X,by omega⟩
  . exact .inr ⟨decide_eq_true Y,by omega,by omega,X,e3⟩
 have A4:((decide (l=1)=true\/decide (I.m.bB=x.m.bB+1)=true)/\(if l=1\/I.m.bB=x.m.bB+1 then K.D - 1 else β - 1)+1=K.D)\/(decide (l=1)=false/\decide (I.m.bB=x.m.bB+1)=false/\(if l=1\/I.m.bB=x.m.bB+1 then K.D - 1 else β - 1)+1=β):=by
  by_cases e:l=1\/I.m.bB=x.m.bB+1
  . rw [if_pos e];exact .inl ⟨e.imp (fun e=>decide_eq_true e) (fun e=>decide_eq_true e),by omega⟩
  . rw [if_neg e];exact .inr ⟨decide_eq_false fun h=>e (.inl h),decide_eq_false fun h=>e (.inr h),by omega⟩
 obtain ⟨r',μ',p',m'⟩:=p.step u1 ok.hC ok.hD qs b1 A1 A2 A3 A4;refine ⟨μ',⟨_,r',_,_,?_,c1,aa,aw,U,?_,p'⟩,m'⟩
 . by_cases e:l=1\/I.m.bB=x.m.bB+1
   . rw [if_pos e];have hz:=bz (e.imp (fun e=>decide_eq_true e) id);have hN:=ok.hN;exact (uW.zero hz Z.ci.v).mono (by omega)
   . rw [if_neg e];rcases J with ⟨X,_⟩| ⟨_,X,_⟩
     . exact b2 (decide_eq_false fun h=>e (.inl h)) X
     . exact absurd (.inr X) e
 . split<;>omega
structure vH (K:KP) (w0 w:World) (B:Nat) (L:Nat->Nat) (N:Nat) (cs:List (List Int)) (tx lrn:Int) (x:Xs) (μ:Nat):Prop where
 sr:SR w0 w B L N x
 st:lV N cs x
 B9:x.m.lrn=lrn
 yi:x.m.tx=tx
 jO:x.m.jO=0
 cf:0<=x.m.cf/\x.m.cf<=x.s.nc/\(0<=tx->x.m.cf<=tx)
 de:0<=x.m.de/\x.m.de<=1000*x.m.cf+ (x.s.R .be).length
 re:0<=x.m.re/\x.m.re<=x.s.nc
 dr:0<=x.m.dr/\x.m.dr+x.hv.length<=x.s.nc
 pl:x.pr.length+x.hv.length+2*cs.length<=2*x.s.nc
 pt:Ct K N lrn x μ
 nc:x.s.nc+μ<=262143
 cn:x.s.nc+μ<=cs.length+K.T
 hb:x.hv.length+μ<=K.T
def CW (N μ:Nat) (x:Xs):Nat:=μ* (N+1)+ (N - (x.s.R .be).length)
theorem FJ {s:aG} (k:ni N cs s hv un) (hN:N<=1000) (hc:dM s) (ha: ∀v:Int,1<=v->v<=N->s.val v≠0):(jW s N).length=N/\(∀y∈jW s N,y=1\/y= -1)/\∀c∈cs,∃l∈c,iE (jW s N) l=1:=by
 have hlen:(jW s N).length=N:=by simp [jW]
 have hb:=fun v=>s.pz k.g.wf v;refine ⟨hlen,fun y X=> ?_,fun c ag=> ?_⟩
 . unfold jW at X;obtain ⟨j,hj,rfl⟩:=List.mem_map.1 X;have:=List.mem_range.1 hj;have h1:=ha ((j:Int)+1) (by omega) (by omega);have h2:=hb ((j:Int)+1);omega
 . obtain ⟨j,hj,rfl⟩:=List.mem_iff_getElem.1 ag;obtain ⟨h1,h2⟩:=k.fc j hj;have e2:cs.getD j []=cs[j]:=by simp [List.getD,hj]
   rw [e2] at h2;rcases hc j h1 with ⟨y,X,ht⟩| ⟨y,X,z,hz,_,v0,_⟩
   . rw [h2] at X;refine ⟨y,X,?_⟩;have I:=k.g.tv y ht;have Z:=(k.g.v1 y I).2 ht;rw [k.v] at I;obtain ⟨J,V,Q⟩:=I;have ar:=dR.aX ⟨J,V,Q⟩;have Y:cq y=true:=oD (n:=N) (by omega) ⟨J,V,Q⟩;have ge:(jW s N).getD (aX y - 1).toNat 0=s.val (aX y):=by
      have h3:(aX y - 1).toNat<N:=by omega
      unfold jW;simp only [List.getD_eq_getElem?_getD,List.getElem?_map];rw [List.getElem?_range h3];show s.val (((aX y - 1).toNat:Int)+1)=_;rw [show ((aX y - 1).toNat:Int)+1=aX y by omega]
     unfold iE;rw [if_neg (by rw [Y,hlen];simp;omega),ge];by_cases e:y<0
     . have U:aX y= -y:=by unfold aX;rw [if_pos e]
       have O:s.val (-y)= -s.val y:=mN (n:=N) ⟨J,V,Q⟩;rw [U,O,Z,if_neg (by decide),decide_eq_false (by omega: ¬(-1:Int)>0),decide_eq_false (by omega: ¬y>0)];rfl
     . have U:aX y=y:=by unfold aX;rw [if_neg e]
       rw [U,Z,if_neg (by decide),decide_eq_true (by omega:(1:Int)>0),decide_eq_true (by omega:y>0)];rfl
   . have I:=k.g.cv j h1 y ((k.g.ca j h1 y).2 X);rw [k.v] at I;obtain ⟨J,V,Q⟩:=I;have hv:=ha (aX y) (by have:=dR.aX ⟨J,V,Q⟩;omega) (by have:=dR.aX ⟨J,V,Q⟩;omega);exfalso;by_cases e:y<0
     . have U:aX y= -y:=by unfold aX;rw [if_pos e]
       have O:s.val (-y)= -s.val y:=mN (n:=N) ⟨J,V,Q⟩;rw [U,O] at hv;omega
     . have U:aX y=y:=by unfold aX;rw [if_neg e]
       rw [U] at hv;omega
theorem AE {s:aG} (k:ni N cs s hv un) (Q:sU s i) (X:s.R .be= []): ∀v,Jp N v->¬∀d∈cs,vS v d:=by
 intro v m U;have key: ∀x∈s.R .tr,v x=1:=k.g.ru (fun x O=>by unfold aG.sE at O;rw [X] at O;simp at O) fun c J l hl V _=>by
  obtain ⟨i,hi,rfl⟩:=J;obtain ⟨y,I,hv⟩:=k.imp i hi v m U;by_cases e:y=l
  . rw [<- e];exact hv
  . have:=V y I e;rw [m.neg,hv] at this;omega
 obtain ⟨y,I,hv⟩:=k.imp i Q.1 v m U;have:=key _ (Q.2 y I);rw [m.neg,hv] at this;omega
theorem HG {s:aG} {S:Int->Prop} (h: ∀v,S v):xW N s S:=fun v _ _ _=>h v
theorem Ha {s:aG} (d:FX N cs s) (g:aM s):ni N cs s [] []:=by
 have fc: ∀j,j<cs.length->s.aQ j/\s.R (.a j)=cs.getD j []:=fun j I=> ⟨⟨by rw [d.n];exact I,d.g j I⟩,d.a j I⟩
 refine ⟨g,d.v,fc,fun i hi v m O=> ?_,by simp,by simp,by simp,fun j I=> ?_,by simp,by simp⟩
 . have J:i<cs.length:=by have:=hi.1;rw [d.n] at this;exact this
   rw [d.a i J];refine O _ ?_;simp [List.getD,J]
 . rw [d.be] at I;simp at I
end
section
variable {w0 w w' w1 w2 u:World} {B N i μ:Nat} {K:KP} {L L' L1:Nat->Nat} {x:Xs} {l:List Int} {cs:List (List Int)} {hv:List (Nat × List Int)} {un:List (List Int)}
def zj (z:Nat) (w':World) (N M:Nat) (cs:List (List Int)) (tx:Int) (e:Ending):Prop:=
 ∃ (jO:Int) (mp:Option Addr) (J U:Nat) (Q:Option Addr) (I pc:Nat) (cf de re dr O:Int),e= .returned (.tuple #[.agg #[.int .i64 jO,.slice mp J U,.slice Q I pc,.int .i64 cf,.int .i64 de,.int .i64 re,.int .i64 dr],.int .i64 O])/\0<=cf/\0<=de/\0<=re/\0<=dr/\
   ((O=6/\jO=0/\J=0/\I=0/\0<=tx/\cf=tx)\/
    (O=0/\jO=1/\I=0/\(0<=tx->cf<=tx)/\∃mo:List Int,J=mo.length/\Vw (Value.int .i64) w' mp mo/\(∀k,aI mp=some k->z<=k)/\mo.length=N/\(∀y∈mo,y=1\/y= -1)/\∀c∈cs,∃l∈c,iE mo l=1)\/
    (O=0/\jO=2/\J=0/\(0<=tx->cf<=tx)/\(∀v,Jp N v->¬∀d∈cs,vS v d)/\∃pr:List Ps,I=pr.length/\Vr 2 Jt w' Q pr/\(∀u∈pr,u.2.1.n=u.2.2.length/\Vw (Value.int .i64) w' u.2.1.p u.2.2)/\PE cs N (pr.map GF)/\pr.length<=2*M+1/\I<=pc))
theorem KM (h:bF w B x.cells):aD w ((Addr.mk B 0 none).add 14) 0 [.int .i64 x.m.jO,x.ms.v,x.ps.v,.int .i64 x.m.cf,.int .i64 x.m.de,.int .i64 x.m.re,.int .i64 x.m.dr]:=
 ⟨bp h rfl,bp h rfl,bp h rfl,bp h rfl,bp h rfl,bp h rfl,bp h rfl,trivial⟩
theorem Fb {n5:Nat} (h:bF w B x.cells) (h5:bF w n5 #[.int .i64 0,.slice none 0 0,.slice none 0 0,.int .i64 0,.int .i64 0,.int .i64 0,.int .i64 0]) {K:Value->World->Prop}
 (hk: ∀w',aE (·=n5) w w'->K (.agg #[.int .i64 x.m.jO,.slice x.ms.p x.ms.n x.ms.c,.slice x.ps.p x.ps.n x.ps.c,.int .i64 x.m.cf,.int .i64 x.m.de,.int .i64 x.m.re,.int .i64 x.m.dr]) w'):
 ∃aw,(some (Addr.mk B 0 none))=some aw/\∃ar X O an ac V aa a_ a6 aT ay,aD w (aw.add 14) 0 [.int .i64 ar,.slice X O an,.slice ac V aa,.int .i64 a_,.int .i64 a6,.int .i64 aT,.int .i64 ay]/\
   ∃J,af (Addr.mk n5 0 none) 0 [.int .i64 ar,.slice X O an,.slice ac V aa,.int .i64 a_,.int .i64 a6,.int .i64 aT,.int .i64 ay] w J/\
   ∃ax Q Z Y U ap ag a' a7 av a8,aD J (Addr.mk n5 0 none) 0 [.int .i64 ax,.slice Q Z Y,.slice U ap ag,.int .i64 a',.int .i64 a7,.int .i64 av,.int .i64 a8]/\
   K (.agg #[.int .i64 ax,.slice Q Z Y,.slice U ap ag,.int .i64 a',.int .i64 a7,.int .i64 av,.int .i64 a8]) J:=by
 refine ⟨_,rfl,_,_,_,_,_,_,_,_,_,_,_,KM h,?_⟩;refine bq h5 rfl rfl fun J I bb=> ?_;have I:bF J n5 #[.int .i64 x.m.jO,x.ms.v,x.ps.v,.int .i64 x.m.cf,.int .i64 x.m.de,.int .i64 x.m.re,.int .i64 x.m.dr]:=I;exact ⟨_,_,_,_,_,_,_,_,_,_,_,⟨ad I rfl,ad I rfl,ad I rfl,ad I rfl,ad I rfl,ad I rfl,ad I rfl,trivial⟩,hk J bb⟩
theorem vH.Mo {b lrn:Int} (I:vH K w0 w B L N cs b lrn x μ):Calls prog dQ.id #[bR x.pb] w fun e w'=> ∃r:Int,e= .returned (.int .i64 r)/\∃ (L':Nat->Nat) (O:Xs),vH K w0 w' B L' N cs b lrn O μ/\Kp w0 w w' L L'/\CW N μ O=CW N μ x/\((r= -1/\dM O.s)\/∃i:Nat,r=i/\sU O.s i):=by
 refine (I.sr.run I.st.ci.g).mono ?_;rintro e aa ⟨Z,rfl,J,Q,U,V,X,ex,Y⟩;refine ⟨_,rfl,Q,{x with s:=J},⟨U,I.st.run X ex,I.B9,I.yi,I.jO,?_,?_,?_,?_,?_,I.pt.run ex,?_,?_,I.hb⟩,V,?_,Y⟩
 . have:=I.cf;show 0<=x.m.cf/\x.m.cf<=J.nc/\_;rw [ex.n];exact this
 . have:=I.de;show 0<=x.m.de/\x.m.de<=1000*x.m.cf+ (J.R .be).length;rw [ex.be];exact this
 . have:=I.re;show 0<=x.m.re/\x.m.re<=J.nc;rw [ex.n];exact this
 . have:=I.dr;show 0<=x.m.dr/\x.m.dr+x.hv.length<=J.nc;rw [ex.n];exact this
 . have:=I.pl;show x.pr.length+x.hv.length+2*cs.length<=2*J.nc;rw [ex.n];exact this
 . have:=I.nc;show J.nc+μ<=262143;rw [ex.n];exact this
 . have:=I.cn;show J.nc+μ<=_;rw [ex.n];exact this
 . show μ* (N+1)+ (N - (J.R .be).length)=_;rw [ex.be];rfl
theorem vH.MD {b lrn:Int} (I:vH K w0 w B L N cs b lrn x μ) (hN:N<=1000) (O:dM x.s):Calls prog cA.id #[bR B] w fun e w'=> ∃r:Bool,e= .returned (.bool r)/\∃ (L':Nat->Nat) (Y:Xs),vH K w0 w' B L' N cs b lrn Y μ/\Kp w0 w w' L L'/\((r=false/\dM Y.s/\∀v:Int,1<=v->v<=N->Y.s.val v≠0)\/(r=true/\CW N μ Y<CW N μ x)):=by
 refine (Bh I.sr I.st.ci.g I.st.ci.v hN I.st.ph I.st.hi).mono ?_;rintro e ax ⟨an,rfl,X,S',V,hd⟩;rcases hd with ⟨rfl,ha,Q⟩| ⟨rfl,v,hv,h0,hi,Q⟩
 . exact ⟨_,rfl,X,{x with S:=S'},⟨Q,⟨I.st.ci,fun v v1 v2 h0=>absurd h0 (ha v v1 v2),I.st.ph,I.st.n,I.st.Jm,I.st.bB,I.st.pf,I.st.mo⟩,I.B9,I.yi,I.jO,I.cf,I.de,I.re,I.dr,I.pl,I.pt,I.nc,I.cn,I.hb⟩,V,.inl ⟨rfl,O,ha⟩⟩
 . have hv':dR x.s.vars v:=by rw [I.st.ci.v];exact hv
   have J:=I.st.ci.decide O hv' h0;have enc:(x.s.decide v).nc=x.s.nc:=rfl;obtain ⟨d1,d2⟩:=I.de;obtain ⟨c1,c2,c3⟩:=I.cf;have U:=I.nc;have Z:((x.s.decide v).R .be).length=(x.s.R .be).length+1:=by rw [ot];simp
   have ar:((x.s.decide v).R .be).length<=N:=by have:=J.g.Jf;have:=J.g.xh;have:=J.v;omega
   have e1:IntKind.i64.wrap (x.m.de+1)=x.m.de+1:=aB (by omega) (by omega);refine ⟨_,rfl,X,{x with s:=x.s.decide v,S:=S',m:= {x.m with de:=IntKind.i64.wrap (x.m.de+1)}},⟨Q,⟨J,hi,I.st.ph,I.st.n,I.st.Jm,I.st.bB,I.st.pf.decide,I.st.mo⟩,I.B9,I.yi,I.jO,?_,?_,?_,?_,?_,I.pt.sE I.st.ci.g O,?_,I.cn,I.hb⟩,V,.inr ⟨rfl,?_⟩⟩
   . show 0<=x.m.cf/\x.m.cf<=(x.s.decide v).nc/\(0<=b->x.m.cf<=b)
     rw [enc];exact ⟨c1,c2,c3⟩
   . show 0<=IntKind.i64.wrap (x.m.de+1)/\IntKind.i64.wrap (x.m.de+1)<=1000*x.m.cf+ (((x.s.decide v).R .be).length:Int)
     rw [e1,Z];omega
   . show 0<=x.m.re/\x.m.re<=(x.s.decide v).nc;rw [enc];exact I.re
   . show 0<=x.m.dr/\x.m.dr+x.hv.length<=(x.s.decide v).nc;rw [enc];exact I.dr
   . show x.pr.length+x.hv.length+2*cs.length<=2* (x.s.decide v).nc;rw [enc];exact I.pl
   . show (x.s.decide v).nc+μ<=262143;rw [enc];exact U
   . show μ* (N+1)+ (N - ((x.s.decide v).R .be).length)<μ* (N+1)+ (N - (x.s.R .be).length)
     exact Nat.add_lt_add_left (by omega) _
theorem vH.drew {b lrn:Int} (I:vH K w0 w B L N cs b lrn x μ):vH K w0 w.drew B L N cs b lrn x μ:=⟨I.sr.drew,I.st,I.B9,I.yi,I.jO,I.cf,I.de,I.re,I.dr,I.pl,I.pt,I.nc,I.cn,I.hb⟩
theorem vH.LY {b lrn:Int} (ok:KX K N lrn) (J:vH K w0 w B L N cs b lrn x μ) (hN:N<=1000) (hB:sU x.s i) (r:0< (x.s.R .be).length) (Q:0<=b->x.m.cf<b):
 Calls prog bH.id #[bR B,.int .i64 i] w fun e w'=>e= .returned (.tuple #[])/\∃ (L':Nat->Nat) (x':Xs) (V:Nat),vH K w0 w' B L' N cs b lrn x' V/\Kp w0 w w' L L'/\CW N V x'<CW N μ x:=by
 obtain ⟨c1,c2,c3⟩:=J.cf;have a_:=J.re;have an:=J.pl;have av:=J.dr;have Y:=J.nc;have ap:=J.de;have ag:=J.hb;have ar:=J.cn;have gJ:=J.st.ci.g;have aT:x.un.length<=2*N+2:=by
  obtain ⟨_,_,_,_,_,_,_,_,h4,_⟩:=J.pt;have:=E4 J.st.ci fun c hc=>by
   obtain ⟨d,hd,rfl⟩:=List.mem_map.1 hc;exact h4 d hd
  rwa [List.length_map] at this
 have hq:((x.hv.length+1:Nat):Int)<Re.jK lrn 100:=by
  rw [uo ok.hl (by omega)];have:=ok.hq;have:x.hv.length+1<QuP.quo lrn.toNat 100:=by omega
  exact Int.ofNat_lt.2 this
 have O:=J.st.bB;refine (yT J.sr J.st hN ⟨by omega,by omega⟩ (by rw [J.B9];exact hq) hB r (by omega) (by omega) (by omega) (by omega) (by omega)).mono ?_;rintro e Z ⟨rfl,L2,X,S2,k2,U,C⟩;obtain ⟨V,P',m'⟩:=J.pt.El ok J.B9 U C O (by omega);refine ⟨rfl,L2,X,V,⟨S2,U,by rw [C.lrn];exact J.B9,by rw [C.tx];exact J.yi,by rw [C.jO];exact J.jO,?_,?_,?_,?_,?_,P',?_,?_,?_⟩,k2,?_⟩
 . have h1:=C.nc;have I:=C.cf;rw [I];refine ⟨by omega,by omega,fun hb=>by have:=Q hb;omega⟩
 . have h1:=C.de;have I:=C.cf;have aw:(x.s.R .be).length<=1000:=by have:=gJ.Jf;have:=gJ.xh;have:=J.st.ci.v;omega
   rw [h1,I];omega
 . have h1:=C.nc;have I:=C.re;omega
 . have h1:=C.nc;have I:=C.dr;omega
 . have h1:=C.nc;have I:=C.pl;omega
 . have h1:=C.nc;omega
 . have h1:=C.nc;omega
 . obtain ⟨h1,e1,e2⟩:=C.ch;have:h1<=x.hv.length+1:=by omega
   have:X.hv.length<=h1:=by omega
   omega
 . unfold CW;have I:(N - (X.s.R .be).length)<=N:=Nat.sub_le _ _;have h3:(V+1)* (N+1)<=μ* (N+1):=Nat.mul_le_mul_right _ m';rw [Nat.succ_mul] at h3;omega
theorem Iz {b lrn:Int} {z:Nat} (U:z<=w0.heap.size) {I:Nat} {q:Sl} (J:vH K w0 w1 B L1 N cs b lrn x μ) (hN:N<=1000) (Q:dM x.s) (ha: ∀v:Int,1<=v->v<=N->x.s.val v≠0) (S:SR w0 w B L N {x with m:= {x.m with jO:=1},ps:=Sl.nil,pr:= [],ms:=q,mo:=jW x.s N}) (h5:I<w0.heap.size) (m:aE (·=I) w w'):
 zj z w' N K.T cs b (.returned (.tuple #[.agg #[.int .i64 1,.slice q.p q.n q.c,.slice none 0 0,.int .i64 x.m.cf,.int .i64 x.m.de,.int .i64 x.m.re,.int .i64 x.m.dr],.int .i64 0])):=by
 obtain ⟨d1,d2,d3⟩:=FJ J.st.ci hN Q ha;obtain ⟨o1,o2,o3⟩:=S.mo id;have o2:q.n=(jW x.s N).length:=o2;have o1:eC aC w q.p q.c (jW x.s N):=o1;refine ⟨_,_,_,_,_,_,_,_,_,_,_,_,rfl,J.cf.1,J.de.1,J.re.1,J.dr.1,.inr (.inl ⟨rfl,rfl,rfl,J.cf.2.2,jW x.s N,o2,o1.vw.keep m fun k O (e:k=I)=> ?_,fun k O=>Nat.le_trans U (o3 k O).2,d1,d2,d3⟩)⟩;have h1:=(o3 k O).2;omega
theorem Eh {b lrn:Int} {z:Nat} {I:Nat} {q sl:Sl} (J:vH K w0 w1 B L1 N cs b lrn x μ) (U:sU x.s i) (V:x.s.R .be= []) (S:SR w0 w B L N {x with m:= {x.m with jO:=2},ps:=q,pr:=x.pr++ [(false,sl,[])]}) (h5:I<w0.heap.size) (X:L I=4) (m:aE (·=I) w w'):
 zj z w' N K.T cs b (.returned (.tuple #[.agg #[.int .i64 2,.slice x.ms.p x.ms.n x.ms.c,.slice q.p q.n q.c,.int .i64 x.m.cf,.int .i64 x.m.de,.int .i64 x.m.re,.int .i64 x.m.dr],.int .i64 0])):=by
 obtain ⟨o1,o2,o3⟩:=S.mo id;obtain ⟨O,p2,Y⟩:=S.pr id;have p2:q.n=(x.pr++ [(false,sl,[])]).length:=p2;have O:Row 2 Jt lx w q.p q.c (x.pr++ [(false,sl,[])]):=O;have o2:x.ms.n=x.mo.length:=o2;refine ⟨_,_,_,_,_,_,_,_,_,_,_,_,rfl,J.cf.1,J.de.1,J.re.1,J.dr.1,.inr (.inr ⟨rfl,rfl,by rw [o2,J.st.mo];rfl,J.cf.2.2,AE J.st.ci U V,x.pr++ [(false,sl,[])],p2,(O.vr F9).keep m fun k Q (e:k=I)=> ?_,fun v hv=> ?_,?_⟩)⟩
 . have h1:=(Y k Q).2;omega
 . have ro:=S.rr id v hv;exact ⟨ro.n,ro.v.keep m fun k Q (e:k=I)=>by
    have h1:=(ro.l k Q).1;rw [e,X] at h1;exact absurd h1 (by decide)⟩
 . rw [List.map_append];have:=PF.fI J.st.pf J.st.ci.g U V;rw [J.st.ci.v] at this;have h1:=J.pl;have h2:=J.cn;have Z:=O.cap;rw [List.length_append,List.length_singleton] at Z p2 ⊢;exact ⟨this,by omega,by omega⟩
theorem Fj {b uni lrn:Int} {q:Option Addr} {m d I pb hb n49:Nat} {s:aG} {H:Pt->Sl} {z:Hp.HS} (G:aq w0 w) (Z:I=w0.heap.size+1) (hN:N<=1000)
 (h:bF w I (Xs.cells {m:=⟨N,⟨q,m,d⟩,b,uni,lrn,uni,1,uni,0,0,0,0,0,0⟩,pb:=pb,hb:=hb,CI:=⟨some ⟨w0.heap.size,0,none⟩,N+1,N+1⟩,hs:=Sl.nil,us:=Sl.nil,ps:=Sl.nil,ms:=Sl.nil,s:=s,S:=fun _=>True,ph:=List.replicate (N+1) 0,hv:= [],un:= [],pr:= [],mo:= []}))
 (pm:PM w pb H s) (Q: ∀y k,own pb H y=some k->I<k/\k<n49) (hr:Hp.co w hb z) (hf:Hp.tu z N N) (O: ∀k,z.bI hb k->n49<=k) (hn:I<n49) (o:eC aC w (some ⟨w0.heap.size,0,none⟩) (N+1) (List.replicate (N+1) 0)) (X:aM s) (nd:FX N cs s) (ok:KX K N lrn) (U:uni=K.u) (Y:cs.length+K.T<=262143):
 ∃μ,vH K w0 w I (fun k=>if k<I then 4 else if k=I then 1 else if k<n49 then 2 else 3) N cs b lrn {m:=⟨N,⟨q,m,d⟩,b,uni,lrn,uni,1,uni,0,0,0,0,0,0⟩,pb:=pb,hb:=hb,CI:=⟨some ⟨w0.heap.size,0,none⟩,N+1,N+1⟩,hs:=Sl.nil,us:=Sl.nil,ps:=Sl.nil,ms:=Sl.nil,s:=s,S:=fun _=>True,ph:=List.replicate (N+1) 0,hv:= [],un:= [],pr:= [],mo:= []} μ:=by
 obtain ⟨μ,P,hμ⟩:=Ct.new (x:= {m:=⟨N,⟨q,m,d⟩,b,uni,lrn,uni,1,uni,0,0,0,0,0,0⟩,pb:=pb,hb:=hb,CI:=⟨some ⟨w0.heap.size,0,none⟩,N+1,N+1⟩,hs:=Sl.nil,us:=Sl.nil,ps:=Sl.nil,ms:=Sl.nil,s:=s,S:=fun _=>True,ph:=List.replicate (N+1) 0,hv:= [],un:= [],pr:= [],mo:= []}) ok nd.be nd.v U rfl U rfl rfl rfl;have hT:=ok.ht;refine ⟨μ,?_⟩;have nn: ∀k,aI (none:Option Addr)≠some k:=fun k J=>by simp [aI] at J
 have hl:=h.lt;have V:=nd.n;refine ⟨⟨G,fun _=>h,⟨?_,by omega,hl⟩,fun _=> ⟨H,pm,fun y k J=> ⟨?_,?_⟩⟩,fun _=> ⟨z,hr,hf.Mj (by omega),fun v v1 v2=> ?_,fun k J=> ⟨?_,?_⟩⟩,fun _=> ⟨o,by simp,fun k J=> ?_⟩,fun _=> ⟨Row.nil _ _ _ _,rfl,fun k J=>absurd J (nn k)⟩,fun _ u hu=>by simp at hu,fun _=> ⟨Ow.nil _ _ _,rfl,fun k J=>absurd J (nn k)⟩,fun _ u hu=>by simp at hu,fun _=> ⟨Row.nil _ _ _ _,rfl,fun k J=>absurd J (nn k)⟩,fun _ u hu=>by simp at hu,fun _=> ⟨Ow.nil _ _ _,rfl,fun k J=>absurd J (nn k)⟩⟩,
  ⟨Ha nd X,HG fun _=>trivial,by simp,rfl,by simp,⟨Int.le_refl _,by show (0:Int)<=100;decide⟩,PF.new nd,rfl⟩,rfl,rfl,rfl,⟨Int.le_refl _,by show (0:Int)<=(s.nc:Int);omega,fun h=>h⟩,⟨Int.le_refl _,by show (0:Int)<=1000*0+ ((s.R .be).length:Int);omega⟩,⟨Int.le_refl _,by show (0:Int)<=(s.nc:Int);omega⟩,⟨Int.le_refl _,by show (0:Int)+ ((0:Nat):Int)<=(s.nc:Int);omega⟩,by show 0+0+2*cs.length<=2*s.nc;omega,P,?_,by show s.nc+μ<=_;omega,by show 0+μ<=_;omega⟩
 . show (if I<I then 4 else if I=I then 1 else _)=1;rw [if_neg (by omega),if_pos rfl]
 . have h1:=Q y k J;show (if k<I then 4 else if k=I then 1 else if k<n49 then 2 else 3)=2;rw [if_neg (by omega),if_neg (by omega),if_pos (by omega)]
 . have h1:=Q y k J;omega
 . rw [hf.au v (by omega) (by omega),if_pos v2];exact ⟨fun _=>trivial,fun _=>by omega⟩
 . have h1:=O k J;show (if k<I then 4 else if k=I then 1 else if k<n49 then 2 else 3)=3;rw [if_neg (by omega),if_neg (by omega),if_neg (by omega)]
 . have h1:=O k J;omega
 . have h1:=bg J;subst h1;refine ⟨?_,Nat.le_refl _⟩;show (if w0.heap.size<I then 4 else _)=4;rw [if_pos (by omega)]
 . show s.nc+μ<=_;omega
theorem uj {k b uni lrn:Int} {q:Option Addr} {m d:Nat} {hs:List Sl} (hc:V2 (Value.int .i64) w q hs cs) (hm:m=cs.length) (c2:dH k cs=true) (ar:oS uni lrn=true) (U:k=N) (hN:N<=1000) (ok:KX K N lrn) (hK:uni=K.u) (eL:cs.length+K.T<=262143):
 Calls prog iH.id #[.agg #[.int .i64 k,.slice q m d],.agg #[.int .i64 b,.int .i64 uni,.int .i64 lrn]] w fun e w'=>zj w.heap.size w' N K.T cs b e/\aq w w':=by
 subst U;refine iH.ah ?_;intro n1 w2 h2 n3 w4 h4 n5 w6 h6;have G6:=(h2.mod.trans h4.mod).trans h6.mod;have A1:=(h2.has.grow h4.mod).grow h6.mod;have A3:=h4.has.grow h6.mod;have e1:=h2.num;have e3:=h4.num;have e5:=h6.num;have s2:=h2.size;have s4:=h4.size;have s6:=h6.size;refine ⟨_,_,_,_,⟨ad A1 rfl,ad A1 rfl,trivial⟩,(jJ (hc.grow G6) hm).mono ?_⟩;rintro e w9 ⟨rfl,g9⟩;rw [c2];refine ⟨_,rfl,bm rfl ⟨_,_,_,⟨ad (A3.grow g9) rfl,ad (A3.grow g9) rfl,ad (A3.grow g9) rfl,trivial⟩,(Dg _ _ _ _).mono ?_⟩⟩;rintro e a_ ⟨rfl,ez⟩;rw [ar];have gd:aq a_ a_.drew:=(aE.refl a_).drew;have Z:=(g9.trans ez).trans gd;have V0:=(hc.grow G6).grow Z;have B1:=A1.grow Z;have B3:=A3.grow Z;have B5:=h6.has.grow Z;have eA:=Z.size;obtain ⟨w0,c7⟩: ∃w0,w0=a_.drew:=⟨_,rfl⟩
 have Gw:aq w w0:=by rw [c7];exact G6.trans Z
 rw [<- c7] at B1 B3 B5 V0 eA ⊢;refine ⟨_,rfl,bm rfl ⟨aq w0,aE.refl _,_,_,_,_,fun v gv=> ⟨ad (B1.grow gv) rfl,ad (B1.grow gv) rfl,trivial⟩,_,_,_,fun v gv=> ⟨ad (B3.grow gv) rfl,ad (B3.grow gv) rfl,ad (B3.grow gv) rfl,trivial⟩,_,fun v gv=>ad (B1.grow gv) rfl,?_⟩⟩;have e0:IntKind.i64.wrap ((N:Int)+1)=((N+1:Nat):Int):=by rw [aB (by omega) (by omega)];omega
 rw [e0];refine nW qK Re.ip (x:=(0:Int)) rfl (N+1) rfl (by omega) fun gm en cc z39=> ⟨cc,fun O g3 X=> ?_⟩
 have fv:=X.num;have gc:=X.size;have a7:=cc.trans X.mod;refine ⟨_,_,_,_,⟨ad (B1.grow a7) rfl,ad (B1.grow a7) rfl,trivial⟩,(yb (V0.grow a7) hm).mono ?_⟩;rintro e gA (⟨d9,_,_⟩| ⟨_,pb,s,H,rfl,pm,gs,nd,aT,hH⟩)
 . rw [c2] at d9;exact absurd d9 (by decide)
 rw [Int.toNat_natCast] at nd;have fk:=aT.size;have g1:=X.has.lt;refine ⟨_,_,rfl,_,rfl,?_⟩;refine bZ (X.has.grow aT) rfl rfl fun dd cT a'=> ?_;have g6:=a'.size;have b3:=pm.keep a' fun y k U (e:k=O)=>by have:=hH y k U;omega
 have eb:aq w0 dd:=(a7.trans aT).then a' fun k U e=>by omega
 refine ⟨_,ad (B1.grow eb) rfl,(Hp.yb N (by omega)).mono ?_⟩;rintro e fL ⟨hb,z,rfl,hr,hf,b8,ac⟩;have fl:=ac.size;refine ⟨_,_,rfl,_,rfl,?_⟩;refine bZ (cT.grow ac) rfl rfl fun ew du av=> ?_;have gf:=av.size;have bv:=(b3.grow ac).keep av fun y k U (e:k=O)=>by have:=hH y k U;omega
 have b4:=hr.keep av fun k U (e:k=O)=>by have:=b8 k U;omega
 have cp:aq w0 ew:=(eb.trans ac).then av fun k U e=>by omega
 refine ⟨_,ad (B3.grow cp) rfl,(Lu.Bm _ _).mono ?_⟩;rintro e gw ⟨rfl,Y⟩;have g0:=Y.size;have eN:1<=uni/\uni<=1048576:=by
  unfold oS at ar;simp only [decide_eq_true_eq] at ar;omega
 rw [if_pos eN];refine ⟨_,_,_,_,rfl,_,rfl,?_⟩;refine bZ (du.grow Y) rfl rfl fun d' cg ay=> ?_;have bY:=(bv.grow Y).keep ay fun y k U (e:k=O)=>by have:=hH y k U;omega
 have bb:=(b4.grow Y).keep ay fun k U (e:k=O)=>by have:=b8 k U;omega
 have e6:aq w0 d':=(cp.trans Y).then ay fun k U e=>by omega
 have fP:=ay.size;have c0:eC aC d' (some ⟨w0.heap.size,0,none⟩) (N+1) (List.replicate (N+1) 0):=((((((en.grow X.mod).grow aT).keep a' fun k U (e:k=O)=>by have:=bg U;omega).grow ac).keep av fun k U (e:k=O)=>by have:=bg U;omega).grow Y).keep ay fun k U (e:k=O)=>by have:=bg U;omega
 obtain ⟨μ0,cm⟩:=Fj (cs:=cs) (b:=b) (lrn:=lrn) (n49:=dd.heap.size) e6 (by omega) hN cg bY (fun y k U=>by have:=hH y k U;have:=pm.lt y k U;omega) bb hf b8 (by omega) c0 gs nd ok hK eL;clear cg bY bb c0 du bv b4 cT b3 hr hf;refine ⟨fun u z=> ∃ (L:Nat->Nat) (x:Xs) (μ:Nat),vH K w0 u O L N cs b lrn x μ/\L n5=4/\z=CW N μ x,⟨_,_,_,_,cm,by show (if n5<O then 4 else _)=4;rw [if_pos (by omega)],rfl⟩,?_⟩;clear cm;have l5:n5<w0.heap.size:=B5.lt;rintro fo fu _ ⟨L,x,μ,I,et,rfl⟩;have lb: ∀ {u v:World} {L1 L2:Nat->Nat},aq w0 u->Kp w0 u v L1 L2->L1 n5=4->L2 n5=4:=fun gu k h=>by rw [k.yx n5 (Nat.lt_of_lt_of_le l5 gu.size)];exact h
 have gW: ∀ {u v:World} {L2:Nat->Nat} {y:Xs},SR w0 u O L2 N y->aE (·=n5) u v->aq w v:=fun S m=>aE.bW (Gw.trans S.g) m (by omega);refine ⟨_,rfl,_,ad I.sr.at rfl,I.Mo.mono ?_⟩;rintro e gJ ⟨ax,rfl,ep,el,a6,e4,eT,hh⟩;have an:=lb I.sr.g e4 et;refine ⟨_,rfl,fun v u=> (v=true/\ax<0/\∃L1 Q μ1,vH K w0 u O L1 N cs b lrn Q μ1/\L1 n5=4/\dM Q.s/\∀v:Int,1<=v->v<=N->Q.s.val v≠0)\/(v=false/\ax<0/\∃L1 Q μ1,vH K w0 u O L1 N cs b lrn Q μ1/\L1 n5=4/\CW N μ1 Q<CW N μ x)\/(v=false/\∃ (L1:Nat->Nat) (Q:Xs) (μ1 i:Nat),vH K w0 u O L1 N cs b lrn Q μ1/\L1 n5=4/\CW N μ1 Q=CW N μ x/\ax=i/\sU Q.s i),?_,?_⟩
 . refine ao (fun r=> ?_) (fun r=> ?_)
   . have r:ax<0:=by simpa using r
     have b6:dM el.s:=by
      rcases hh with ⟨_,c⟩| ⟨i,e,_⟩
      . exact c
      . omega
     refine (a6.MD hN b6).mono ?_;rintro e gr ⟨f',rfl,ed,c1,dp,ec,hd⟩;refine ⟨_,rfl,?_⟩;rcases hd with ⟨rfl,eu,ha⟩| ⟨rfl,b_⟩
     . exact .inl ⟨rfl,r,ed,c1,_,dp,lb a6.sr.g ec an,eu,ha⟩
     . exact .inr (.inl ⟨rfl,r,ed,c1,_,dp,lb a6.sr.g ec an,by omega⟩)
   . have r: ¬ax<0:=by simpa using r
     rcases hh with ⟨e,_⟩| ⟨i,e,hB⟩
     . omega
     . exact .inr (.inr ⟨rfl,ep,_,_,i,a6,an,eT,e,hB⟩)
 . rintro fA fq _ (⟨rfl,_,L1,Q,μ1,J,aw,b6,ha⟩| ⟨rfl,r,L1,Q,μ1,J,aw,b_⟩| ⟨rfl,L1,Q,μ1,i,J,aw,gb,rfl,hB⟩)
   . refine cj rfl ((Ix J.sr J.st.ci.g J.st.ci.v hN J.st.n J.st.mo).mono ?_);rintro e gn ⟨rfl,fs,gT,a8,fj⟩;exact ⟨rfl,Fb (K:=fun v w'=>zj w.heap.size w' N K.T cs b (.returned (.tuple #[v,.int .i64 0]))/\aq w w') a8.at (B5.grow a8.g) fun w' m'=> ⟨Iz (x:=Q) Gw.size J hN b6 ha a8 l5 m',gW a8 m'⟩⟩
   . exact bm rfl (cj (by simpa using r) ⟨_,b_,L1,Q,_,J,aw,rfl⟩)
   . obtain ⟨H1,ey,_⟩:=J.sr.pm id;refine bm rfl (bm (by simp) ⟨_,rfl,_,ad J.sr.at rfl,(D6 ey).mono ?_⟩);rintro e eH ⟨rfl,rfl⟩;refine ⟨_,rfl,ao (fun r=> ?_) (fun r=> ?_)⟩
     . have r:(Q.s.R .be).length=0:=by simpa using r
       have r:Q.s.R .be= []:=List.eq_nil_of_length_eq_zero r;have gz:=J.pl;have fb:=J.nc;refine (CR J.sr (by omega) (l:= []) (p:=none) (n:=0) (c:=0) Vw.nil rfl (by omega)).mono ?_;rintro e g2 ⟨rfl,gV,f1,fa,b7,es⟩;refine ⟨rfl,_,rfl,?_⟩;refine gC b7.at rfl rfl fun fd ce d4=> ?_;obtain ⟨V,dk⟩:=b7.own (m':= {Q.m with jO:=2}) ce d4;exact Fb (K:=fun v w'=>zj w.heap.size w' N K.T cs b (.returned (.tuple #[v,.int .i64 0]))/\aq w w') V.at (B5.grow V.g) fun w' m'=> ⟨Eh (x:=Q) J hB r V l5 (lb b7.g dk (lb J.sr.g es aw)) m',gW V m'⟩
     . have r:0< (Q.s.R .be).length:=by
        rcases Nat.eq_zero_or_pos (Q.s.R .be).length with e|e
        . rw [e] at r;simp at r
        . exact e
       have D:=J.drew;have yi:=J.yi;have El:(0<=b->Q.m.cf<b)->Calls prog bH.id #[.pointer (some (Addr.mk O 0 none)),.int .i64 i] eH.drew fun e bx=>e= .returned (.tuple #[])/\∃ea,ea<CW N μ x/\∃ (L:Nat->Nat) (x:Xs) (μ:Nat),vH K w0 bx O L N cs b lrn x μ/\L n5=4/\ea=CW N μ x:=by
        intro d8;refine (D.LY ok hN hB r d8).mono ?_;rintro e bx ⟨rfl,L2,x2,μ2,I2,k2,b_⟩;exact ⟨rfl,_,by omega,L2,x2,μ2,I2,lb D.sr.g k2 aw,rfl⟩
       refine ⟨_,rfl,_,bp D.sr.at rfl,?_⟩;rw [yi];refine ao (fun rb=> ?_) (fun rb=> ?_)
       . have rb:0<=b:=by simpa using rb
         refine ⟨_,rfl,_,bp D.sr.at rfl,_,rfl,_,bp D.sr.at rfl,?_⟩;rw [yi];refine ao (fun rc=> ?_) (fun rc=> ?_)
         . have rc:b<=Q.m.cf:=by simpa using rc
           refine ⟨_,rfl,?_⟩;refine gC D.sr.at rfl rfl fun b5 aa dq=> ?_;have aa:bF b5 O ({Q with ps:=Sl.nil}:Xs).cells:=aa;have ap:aq w0 b5:=D.sr.g.then dq fun k U (e:k=O)=>by omega
           obtain ⟨o1,o2,o3⟩:=D.sr.mo id;refine Fb (K:=fun v w'=>zj w.heap.size w' N K.T cs b (.returned (.tuple #[v,.int .i64 6]))/\aq w w') aa (B5.grow ap) fun w' m'=> ⟨?_,aE.bW (Gw.trans ap) m' (by omega)⟩
           have:=J.cf.2.2 rb;exact ⟨_,_,_,_,_,_,_,_,_,_,_,_,rfl,J.cf.1,J.de.1,J.re.1,J.dr.1,.inl ⟨rfl,J.jO,by show Q.ms.n=0;rw [o2,J.st.mo];rfl,rfl,rb,by show Q.m.cf=b;omega⟩⟩
         . have rc: ¬b<=Q.m.cf:=by simpa using rc
           exact El fun _=>by omega
       . have rb: ¬0<=b:=by simpa using rb
         exact El fun h=>absurd h rb
end
end Go.Proofs.YtenmibfmhccmiaaGreat.W
