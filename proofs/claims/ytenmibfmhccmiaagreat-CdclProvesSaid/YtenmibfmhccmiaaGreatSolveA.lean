/- Layer 14: the search: its parts. -/
import Derived.Test.YtenmibfmhccmiaaGreatPfA
namespace Go.Proofs.YtenmibfmhccmiaaGreat.W
open Go Go.Fw Go.RowKit Go.SoP Go.LiP Go.LeP
open Go.Proofs.Tryz (prog)
section
variable {w0 w w' w1 w2 u:World} {B N i:Nat} {L L' L1:Nat->Nat} {x:Xs} {l:List Int} {cs:List (List Int)} {hv:List (Nat × List Int)} {un:List (List Int)}
def qi (u l:Int):Bool:=decide (1<=u/\u<=1048576/\1<=l/\l<=1048576)
theorem EO (b u l:Int) (w:World):Calls prog lU.id #[.agg #[.int .i64 b,.int .i64 u,.int .i64 l]] w fun e w'=>e= .returned (.int .i64 (if qi u l then 0 else 1))/\ao w w':=by
 refine lU.ak ?_;intro V w2 I;have R: ∀ {r:Int},r=(if qi u l then 0 else 1)->Ending.returned (.int .i64 r)= .returned (.int .i64 (if qi u l then 0 else 1))/\ao w w2:=fun e=> ⟨by rw [e],I.mod⟩
 have F: ¬(1<=u/\u<=1048576/\1<=l/\l<=1048576)->(1:Int)=(if qi u l then 0 else 1):=fun h=>by unfold qi;rw [decide_eq_false h];rfl
 refine ⟨_,ae I.has rfl,aj (fun J=>R (F ?_)) (fun J=> ⟨_,ae I.has rfl,aj (fun U=>R (F ?_)) (fun U=> ⟨_,ae I.has rfl,aj (fun Q=>R (F ?_)) (fun Q=> ⟨_,ae I.has rfl,aj (fun O=>R (F ?_)) (fun O=>R ?_)⟩)⟩)⟩)⟩;all_goals simp only [decide_eq_true_eq,decide_eq_false_iff_not] at*
 all_goals first|omega|skip
 unfold qi;rw [decide_eq_true (by omega)];rfl
theorem SR.run (h:SR w0 w B L N x) (g:aL x.s):Calls prog eZ.id #[bL x.pb] w fun e w'=> ∃r:Int,e= .returned (.int .i64 r)/\∃I L',SR w0 w' B L' N {x with s:=I}/\Kp w0 w w' L L'/\aL I/\iM x.s I/\((r= -1/\dz I)\/∃i:Nat,r=i/\t7 I i):=by
 obtain ⟨H,pm,hl⟩:=h.pm id;refine (HD pm g).mono ?_;rintro e w' ⟨r,rfl,I,Q,p,O,ex,J⟩;have:=h.sU hl pm.lt p;exact ⟨r,rfl,I,_,this.1,this.2,O,ex,J⟩
theorem nF.run (st:nF N cs x) {I:aH} (J:aL I) (e:iM x.s I):nF N cs {x with s:=I}:=
 ⟨st.ci.run e J,st.hi.run st.ci e J,st.ph,st.n,st.Kx,st.bE,st.pf.ext e,st.mo⟩
structure KP where
 D:Nat
 wB:Nat
 C:Nat
 u:Nat
 T:Nat
def KP.mZ (K:KP) (N:Nat) (lrn:Int):Nat:=if 0<K.wB then QuP.quo lrn.toNat 0+ (2*N+2)+PotP.MA (QuP.quo lrn.toNat) (K.wB - 1) 0+ (K.D+K.C) else K.C
structure Ml (K:KP) (N:Nat) (lrn:Int):Prop where
 hu:1<=K.u/\K.u<=1048576
 hl:1<=lrn/\lrn<=1048576
 hN:2 ^ (N - 1)<=K.D
 hC: ∀a l,1<=a->l<=K.u*Luby.iC a->∃n,PotP.Tl K.D K.u a l n/\n<=K.C
 hD: ∀w,K.wB<=w->K.D<=QuP.quo lrn.toNat w - PotP.qp (QuP.quo lrn.toNat) w
 hq:K.T+1<QuP.quo lrn.toNat 100
 ht:K.mZ N lrn<=K.T
def D9 (K:KP) (N:Nat) (lrn:Int) (x:Xs) (μ:Nat):Prop:= ∃β r a l:Nat,wT x.s β/\x.m.pu=K.u/\x.m.pa=a/\x.m.pl=l/\(∀c∈x.un,c.2.length<=1)/\a<=x.s.nc+1/\
 PotP.NL K.D K.wB K.C K.u (2*N+2) (QuP.quo lrn.toNat) x.m.bE.toNat x.hv.length x.un.length a l β r μ
theorem D9.new {K:KP} {lrn:Int} (ok:Ml K N lrn) (Q:x.s.R .be= []) (hv:x.s.vars=N) (h1:x.m.pu=K.u) (Z:x.m.pa=1) (X:x.m.pl=K.u) (J:x.un= []) (O:x.hv= []) (U:x.m.bE=0): ∃μ,D9 K N lrn x μ/\μ<=K.mZ N lrn:=by
 have hu:=ok.hu;have hl:=ok.hl;have l1:Luby.iC 1=1:=by have:=Luby.i9 0;simpa using this
 have q0:QuP.quo lrn.toNat 0=lrn.toNat:=rfl;have hN:=ok.hN;have Y:=Nat.two_pow_pos (N - 1);have I:K.u<=K.u*Luby.iC 1:=by rw [l1];omega
 have V:K.u*Luby.iC 1 - K.u=0:=by rw [l1];omega
 have mk: ∀μ,((0<K.wB/\μ=(QuP.quo lrn.toNat 0 - 0)+ (2*N+2 - 0)+PotP.MA (QuP.quo lrn.toNat) (K.wB - 1 - 0) 0+ (K.D+K.C))\/
  (K.wB<=0/\0<=PotP.qp (QuP.quo lrn.toNat) 0+0/\((K.u*Luby.iC 1 - K.u<=0+K.D/\PotP.Tl K.D K.u 1 K.u μ/\μ<=K.C)\/(0+K.D<K.u*Luby.iC 1 - K.u/\μ=(K.D - 0)+K.C))))->D9 K N lrn x μ:=by
  intro μ hp;refine ⟨2 ^ (N - 1) - 1,0,1,K.u,wT.zero Q hv,h1,Z,X,by rw [J];simp,by omega,?_⟩;rw [J,O,U];exact ⟨hu.1,I,Nat.le_refl _,by rw [V];omega,by show 0<QuP.quo lrn.toNat 0;omega,hp⟩
 by_cases e:0<K.wB
 . refine ⟨_,mk _ (.inl ⟨e,rfl⟩),?_⟩;unfold KP.mZ;rw [if_pos e];exact Nat.le_refl _
 . obtain ⟨n,t,hn⟩:=ok.hC 1 K.u (Nat.le_refl _) I;refine ⟨n,mk n (.inr ⟨by omega,Nat.zero_le _,.inl ⟨by omega,t,hn⟩⟩),?_⟩;unfold KP.mZ;rw [if_neg e];exact hn
theorem vY {lrn bE:Int} (h:1<=lrn/\lrn<=1048576) (I:0<=bE/\bE<=100):Re.kC lrn bE=(QuP.quo lrn.toNat bE.toNat:Nat):=by
 unfold Re.kC;rw [if_pos (by unfold Re.xn;exact decide_eq_true ⟨h.1,h.2,I.1,I.2⟩)]
theorem It {s:aH} (k:oQ N cs s hv un) (h: ∀c∈un,c.length<=1):un.length<=2*N+2:=by
 have J:=k.dn;rw [List.map_append] at J;have J:=(List.nodup_append.1 J).2.1;have hs:=List.Nodup.length_le_of_subset J (l₂:=([]::(List.range (2*N+1)).map fun (j:Nat)=> [(j:Int) - N]).map fun c=>sK c N) fun y O=>by
  obtain ⟨c,I,rfl⟩:=List.mem_map.1 O;refine List.mem_map.2 ⟨c,?_,rfl⟩;have h1:=h c I
  match c,h1,I with
  | [],_,_=>exact List.mem_cons_self
  | [z],_,I=>
    obtain ⟨Q,U,V⟩:=(k.ok [z] (List.mem_append_right _ I)).qX z (by simp);refine List.mem_cons_of_mem _ (List.mem_map.2 ⟨(z+N).toNat,List.mem_range.2 (by omega),?_⟩);show [((z+N).toNat:Int) - N]= [z]
    rw [show ((z+N).toNat:Int) - N=z by omega]
  |_::_::_,h1,_=>simp at h1
 simpa using hs
theorem wT.mono {s:aH} {β γ:Nat} (h:wT s β) (e:β<=γ):wT s γ:=fun u a b c=>Nat.le_trans (h u a b c) e
theorem D9.run {K:KP} {lrn:Int} {μ:Nat} (P:D9 K N lrn x μ) {I:aH} (e:iM x.s I):D9 K N lrn {x with s:=I} μ:=by
 obtain ⟨β,r,a,l,rb,h1,Q,J,O,h5,p⟩:=P;exact ⟨β,r,a,l,rb.run e,h1,Q,J,O,by show a<=I.nc+1;rw [e.n];exact h5,p⟩
theorem D9.uc {K:KP} {lrn:Int} {μ:Nat} (P:D9 K N lrn x μ) (g:aL x.s) (I:dz x.s) {v de:Int} {S':Int->Prop}:D9 K N lrn {x with s:=x.s.decide v,S:=S',m:= {x.m with de:=de}} μ:=by
 obtain ⟨β,r,a,l,rb,h1,Q,J,O,h5,p⟩:=P;exact ⟨β,r,a,l,wT.decide (rb.dV g (.inl I)),h1,Q,J,O,h5,p⟩
theorem D9.EZ {K:KP} {lrn:Int} {μ:Nat} {I:Xs} (ok:Ml K N lrn) (P:D9 K N lrn x μ) (hl:x.m.lrn=lrn) (ac:nF N cs I) (C:Og N x I) (hw:0<=x.m.bE/\x.m.bE<=100) (b5:x.s.nc<=262143): ∃μ',D9 K N lrn I μ'/\μ'+1<=μ:=by
 obtain ⟨β,r,a,l,rb,h1,h2,h3,h4,h5,p⟩:=P;obtain ⟨b1,b2⟩:=C.rb β rb;obtain ⟨u1,u2⟩:=ok.hu;have Ma:Lu.BO (K.u:Int) (a:Int) (l:Int):=by
  have:=p.l1;have:=p.a1;have h:=p.l2;refine ⟨by omega,by omega,by omega,by omega,by omega,?_⟩;rw [Int.toNat_natCast,<- Int.natCast_mul];exact Int.ofNat_le.2 h
 obtain ⟨c1,c2,c3⟩:=C.pc;have bz:=C.bz;rw [h1,h2,h3] at c1 c2 c3 bz b2;unfold Lu.oJ at c1;rw [if_pos Ma] at c1;have ar:(a:Int)≠1073741824:=by omega
 have ap:Lu.nj (K.u:Int) a l=decide (l=1):=by
  unfold Lu.nj;rw [decide_eq_true Ma,Bool.true_and];exact decide_eq_decide.2 (by omega)
 rw [ap] at bz b2;have Z:I.m.pa=((if 1<l then a else a+1:Nat):Int):=by
  rw [c2];unfold Lu.kH;rw [if_pos Ma];by_cases e:1<l
  . rw [if_pos (by omega),if_pos e]
  . rw [if_neg (by omega),if_neg ar,if_neg e];rfl
 have aw:I.m.pl=((if 1<l then l - 1 else K.u*Luby.iC (a+1):Nat):Int):=by
  rw [c3,show Lu.mW (K.u:Int) a l=if 1< (l:Int) then (l:Int) - 1 else (K.u:Int)* (Luby.iC (Lu.kH (K.u:Int) a l).toNat:Int) by unfold Lu.mW;rw [if_pos Ma],<- c2,Z];by_cases e:1<l
  . rw [if_pos (by omega),if_pos e];omega
  . rw [if_neg (by omega),if_neg e,if_neg e,Int.toNat_natCast,Int.natCast_mul]
 obtain ⟨V,aa,J⟩:=C.ch;have U: ∀c∈I.un,c.2.length<=1:=by
  intro c O;rcases aa with ⟨_,e⟩| ⟨_,d,hd,e⟩
  . rw [e] at O;exact h4 c O
  . rw [e] at O;rcases List.mem_append.1 O with O|O
    . exact h4 c O
    . rw [List.mem_singleton] at O;subst O;exact hd
 have hU:=It ac.ci (fun c O=>by
  obtain ⟨d,hd,rfl⟩:=List.mem_map.1 O;exact U d hd)
 rw [List.length_map] at hU;have enc:=C.nc;have a6:1<=K.D:=by have:=p.p2;omega
 rw [hl] at J;have Q:=vY ok.hl hw;have q1: ∀w,1<=QuP.quo lrn.toNat w:=fun w=>Nat.le_trans (by have:=ok.hl;show 1<=QuP.quo lrn.toNat 0;show 1<=lrn.toNat;omega) (QuP.vk _ 0 w (by omega));have qs: ∀w,QuP.quo lrn.toNat w<QuP.quo lrn.toNat (w+1):=fun w=>by show _<QuP.quo _ w+QuP.quo _ w / 10+1;omega
 have a8:=q1 x.m.bE.toNat;have A1:(decide (l=1)=true/\l=1/\(if 1<l then a else a+1)=a+1/\(if 1<l then l - 1 else K.u*Luby.iC (a+1))=K.u*Luby.iC (a+1))\/(decide (l=1)=false/\1<l/\(if 1<l then a else a+1)=a/\(if 1<l then l - 1 else K.u*Luby.iC (a+1))=l - 1):=by
  have:=p.l1;by_cases e:l=1
  . exact .inl ⟨decide_eq_true e,e,if_neg (by omega),if_neg (by omega)⟩
  . exact .inr ⟨decide_eq_false e,by omega,if_pos (by omega),if_pos (by omega)⟩
 have A2:(V=x.hv.length+1/\I.un.length=x.un.length)\/(V=x.hv.length/\I.un.length=x.un.length+1/\I.un.length<=2*N+2):=by
  rcases aa with ⟨Y,e⟩| ⟨Y,d,_,e⟩
  . exact .inl ⟨Y,by rw [e]⟩
  . exact .inr ⟨Y,by rw [e];simp,hU⟩
 have A3:(decide (I.m.bE=x.m.bE+1)=false/\I.m.bE.toNat=x.m.bE.toNat/\I.hv.length=V/\V<QuP.quo lrn.toNat x.m.bE.toNat)\/(decide (I.m.bE=x.m.bE+1)=true/\I.m.bE.toNat=x.m.bE.toNat+1/\QuP.quo lrn.toNat x.m.bE.toNat<=V/\I.hv.length<=V/\V<=2*I.hv.length+1):=by
  unfold Ca at J;rw [Q] at J;rcases J with ⟨Y,X,e3⟩| ⟨e0,Y,X,e3,e4⟩
  . exact .inl ⟨decide_eq_false (by omega),by rw [Y],X,by omega⟩
  . exact .inr ⟨decide_eq_true Y,by omega,by omega,X,e3⟩
 have A4:((decide (l=1)=true\/decide (I.m.bE=x.m.bE+1)=true)/\(if l=1\/I.m.bE=x.m.bE+1 then K.D - 1 else β - 1)+1=K.D)\/(decide (l=1)=false/\decide (I.m.bE=x.m.bE+1)=false/\(if l=1\/I.m.bE=x.m.bE+1 then K.D - 1 else β - 1)+1=β):=by
  by_cases e:l=1\/I.m.bE=x.m.bE+1
  . rw [if_pos e];exact .inl ⟨e.imp (fun e=>decide_eq_true e) (fun e=>decide_eq_true e),by omega⟩
  . rw [if_neg e];exact .inr ⟨decide_eq_false fun h=>e (.inl h),decide_eq_false fun h=>e (.inr h),by omega⟩
 obtain ⟨r',μ',p',m'⟩:=p.step u1 ok.hC ok.hD qs b1 A1 A2 A3 A4;refine ⟨μ',⟨_,r',_,_,?_,c1,Z,aw,U,?_,p'⟩,m'⟩
 . by_cases e:l=1\/I.m.bE=x.m.bE+1
   . rw [if_pos e];have hz:=bz (e.imp (fun e=>decide_eq_true e) id);have hN:=ok.hN;exact (wT.zero hz ac.ci.v).mono (by omega)
   . rw [if_neg e];rcases J with ⟨X,_⟩| ⟨_,X,_⟩
     . exact b2 (decide_eq_false fun h=>e (.inl h)) X
     . exact absurd (.inr X) e
 . split<;>omega
structure yH (K:KP) (w0 w:World) (B:Nat) (L:Nat->Nat) (N:Nat) (cs:List (List Int)) (vj lrn:Int) (x:Xs) (μ:Nat):Prop where
 sr:SR w0 w B L N x
 st:nF N cs x
 Cf:x.m.lrn=lrn
 zQ:x.m.vj=vj
 ke:x.m.ke=0
 cf:0<=x.m.cf/\x.m.cf<=x.s.nc/\(0<=vj->x.m.cf<=vj)
 de:0<=x.m.de/\x.m.de<=1000*x.m.cf+ (x.s.R .be).length
 re:0<=x.m.re/\x.m.re<=x.s.nc
 dr:0<=x.m.dr/\x.m.dr+x.hv.length<=x.s.nc
 pl:x.pr.length+x.hv.length+2*cs.length<=2*x.s.nc
 pt:D9 K N lrn x μ
 nc:x.s.nc+μ<=262143
 cn:x.s.nc+μ<=cs.length+K.T
 hb:x.hv.length+μ<=K.T
def DT (N μ:Nat) (x:Xs):Nat:=μ* (N+1)+ (N - (x.s.R .be).length)
theorem Hv {s:aH} (k:oQ N cs s hv un) (hN:N<=1000) (hc:dz s) (ha: ∀v:Int,1<=v->v<=N->s.val v≠0):(kO s N).length=N/\(∀y∈kO s N,y=1\/y= -1)/\∀c∈cs,∃l∈c,pe (kO s N) l=1:=by
 have hlen:(kO s N).length=N:=by simp [kO]
 have hb:=fun v=>s.pw k.g.wf v;refine ⟨hlen,fun y J=> ?_,fun c ac=> ?_⟩
 . unfold kO at J;obtain ⟨j,hj,rfl⟩:=List.mem_map.1 J;have:=List.mem_range.1 hj;have h1:=ha ((j:Int)+1) (by omega) (by omega);have h2:=hb ((j:Int)+1);omega
 . obtain ⟨j,hj,rfl⟩:=List.mem_iff_getElem.1 ac;obtain ⟨h1,h2⟩:=k.fc j hj;have e2:cs.getD j []=cs[j]:=by simp [List.getD,hj]
   rw [e2] at h2;rcases hc j h1 with ⟨y,J,ht⟩| ⟨y,J,z,hz,_,v0,_⟩
   . rw [h2] at J;refine ⟨y,J,?_⟩;have I:=k.g.tv y ht;have Z:=(k.g.v1 y I).2 ht;rw [k.v] at I;obtain ⟨Q,U,O⟩:=I;have ag:=dB.bf ⟨Q,U,O⟩;have Y:bq y=true:=p6 (n:=N) (by omega) ⟨Q,U,O⟩;have ge:(kO s N).getD (bf y - 1).toNat 0=s.val (bf y):=by
      have h3:(bf y - 1).toNat<N:=by omega
      unfold kO;simp only [List.getD_eq_getElem?_getD,List.getElem?_map];rw [List.getElem?_range h3];show s.val (((bf y - 1).toNat:Int)+1)=_;rw [show ((bf y - 1).toNat:Int)+1=bf y by omega]
     unfold pe;rw [if_neg (by rw [Y,hlen];simp;omega),ge];by_cases e:y<0
     . have V:bf y= -y:=by unfold bf;rw [if_pos e]
       have X:s.val (-y)= -s.val y:=oe (n:=N) ⟨Q,U,O⟩;rw [V,X,Z,if_neg (by decide),decide_eq_false (by omega: ¬(-1:Int)>0),decide_eq_false (by omega: ¬y>0)];rfl
     . have V:bf y=y:=by unfold bf;rw [if_neg e]
       rw [V,Z,if_neg (by decide),decide_eq_true (by omega:(1:Int)>0),decide_eq_true (by omega:y>0)];rfl
   . have I:=k.g.cv j h1 y ((k.g.ca j h1 y).2 J);rw [k.v] at I;obtain ⟨Q,U,O⟩:=I;have hv:=ha (bf y) (by have:=dB.bf ⟨Q,U,O⟩;omega) (by have:=dB.bf ⟨Q,U,O⟩;omega);exfalso;by_cases e:y<0
     . have V:bf y= -y:=by unfold bf;rw [if_pos e]
       have X:s.val (-y)= -s.val y:=oe (n:=N) ⟨Q,U,O⟩;rw [V,X] at hv;omega
     . have V:bf y=y:=by unfold bf;rw [if_neg e]
       rw [V] at hv;omega
theorem CB {s:aH} (k:oQ N cs s hv un) (U:t7 s i) (X:s.R .be= []): ∀v,Km N v->¬∀d∈cs,xM v d:=by
 intro v m Q;have key: ∀x∈s.R .tr,v x=1:=k.g.sE (fun x J=>by unfold aH.uc at J;rw [X] at J;simp at J) fun c O l hl V _=>by
  obtain ⟨i,hi,rfl⟩:=O;obtain ⟨y,I,hv⟩:=k.imp i hi v m Q;by_cases e:y=l
  . rw [<- e];exact hv
  . have:=V y I e;rw [m.neg,hv] at this;omega
 obtain ⟨y,I,hv⟩:=k.imp i U.1 v m Q;have:=key _ (U.2 y I);rw [m.neg,hv] at this;omega
theorem JF {s:aH} {S:Int->Prop} (h: ∀v,S v):zU N s S:=fun v _ _ _=>h v
theorem IQ {s:aH} (d:Iu N cs s) (g:aL s):oQ N cs s [] []:=by
 have fc: ∀j,j<cs.length->s.aN j/\s.R (.a j)=cs.getD j []:=fun j I=> ⟨⟨by rw [d.n];exact I,d.g j I⟩,d.a j I⟩
 refine ⟨g,d.v,fc,fun i hi v m O=> ?_,by simp,by simp,by simp,fun j I=> ?_,by simp,by simp⟩
 . have J:i<cs.length:=by have:=hi.1;rw [d.n] at this;exact this
   rw [d.a i J];refine O _ ?_;simp [List.getD,J]
 . rw [d.be] at I;simp at I
end
section
variable {w0 w w' w1 w2 u:World} {B N i μ:Nat} {K:KP} {L L' L1:Nat->Nat} {x:Xs} {l:List Int} {cs:List (List Int)} {hv:List (Nat × List Int)} {un:List (List Int)}
def BD (z:Nat) (w':World) (N M:Nat) (cs:List (List Int)) (vj:Int) (e:Ending):Prop:=
 ∃ (ke:Int) (mp:Option Addr) (O U:Nat) (Q:Option Addr) (I pc:Nat) (cf de re dr J:Int),e= .returned (.tuple #[.agg #[.int .i64 ke,.slice mp O U,.slice Q I pc,.int .i64 cf,.int .i64 de,.int .i64 re,.int .i64 dr],.int .i64 J])/\0<=cf/\0<=de/\0<=re/\0<=dr/\
   ((J=6/\ke=0/\O=0/\I=0/\0<=vj/\cf=vj)\/
    (J=0/\ke=1/\I=0/\(0<=vj->cf<=vj)/\∃mo:List Int,O=mo.length/\Vw (Value.int .i64) w' mp mo/\(∀k,aJ mp=some k->z<=k)/\mo.length=N/\(∀y∈mo,y=1\/y= -1)/\∀c∈cs,∃l∈c,pe mo l=1)\/
    (J=0/\ke=2/\O=0/\(0<=vj->cf<=vj)/\(∀v,Km N v->¬∀d∈cs,xM v d)/\∃pr:List Ps,I=pr.length/\Vr 2 KF w' Q pr/\(∀u∈pr,u.2.1.n=u.2.2.length/\Vw (Value.int .i64) w' u.2.1.p u.2.2)/\PE cs N (pr.map D8)/\pr.length<=2*M+1/\I<=pc))
theorem Lc (h:bA w B x.cells):aB w ((Addr.mk B 0 none).add 14) 0 [.int .i64 x.m.ke,x.ms.v,x.ps.v,.int .i64 x.m.cf,.int .i64 x.m.de,.int .i64 x.m.re,.int .i64 x.m.dr]:=
 ⟨bG h rfl,bG h rfl,bG h rfl,bG h rfl,bG h rfl,bG h rfl,bG h rfl,trivial⟩
theorem HY {n5:Nat} (h:bA w B x.cells) (h5:bA w n5 #[.int .i64 0,.slice none 0 0,.slice none 0 0,.int .i64 0,.int .i64 0,.int .i64 0,.int .i64 0]) {K:Value->World->Prop}
 (hk: ∀w',aF (·=n5) w w'->K (.agg #[.int .i64 x.m.ke,.slice x.ms.p x.ms.n x.ms.c,.slice x.ps.p x.ps.n x.ps.c,.int .i64 x.m.cf,.int .i64 x.m.de,.int .i64 x.m.re,.int .i64 x.m.dr]) w'):
 ∃ap,(some (Addr.mk B 0 none))=some ap/\∃ax an X aa O ad V ar a7 aw a6,aB w (ap.add 14) 0 [.int .i64 ax,.slice an X aa,.slice O ad V,.int .i64 ar,.int .i64 a7,.int .i64 aw,.int .i64 a6]/\
   ∃J,ah (Addr.mk n5 0 none) 0 [.int .i64 ax,.slice an X aa,.slice O ad V,.int .i64 ar,.int .i64 a7,.int .i64 aw,.int .i64 a6] w J/\
   ∃aT ac Q U Y Z ag ay a8 av az,aB J (Addr.mk n5 0 none) 0 [.int .i64 aT,.slice ac Q U,.slice Y Z ag,.int .i64 ay,.int .i64 a8,.int .i64 av,.int .i64 az]/\
   K (.agg #[.int .i64 aT,.slice ac Q U,.slice Y Z ag,.int .i64 ay,.int .i64 a8,.int .i64 av,.int .i64 az]) J:=by
 refine ⟨_,rfl,_,_,_,_,_,_,_,_,_,_,_,Lc h,?_⟩;refine bj h5 rfl rfl fun J I a'=> ?_;have I:bA J n5 #[.int .i64 x.m.ke,x.ms.v,x.ps.v,.int .i64 x.m.cf,.int .i64 x.m.de,.int .i64 x.m.re,.int .i64 x.m.dr]:=I;exact ⟨_,_,_,_,_,_,_,_,_,_,_,⟨ae I rfl,ae I rfl,ae I rfl,ae I rfl,ae I rfl,ae I rfl,ae I rfl,trivial⟩,hk J a'⟩
theorem yH.Om {b lrn:Int} (I:yH K w0 w B L N cs b lrn x μ):Calls prog eZ.id #[bL x.pb] w fun e w'=> ∃r:Int,e= .returned (.int .i64 r)/\∃ (L':Nat->Nat) (O:Xs),yH K w0 w' B L' N cs b lrn O μ/\Kp w0 w w' L L'/\DT N μ O=DT N μ x/\((r= -1/\dz O.s)\/∃i:Nat,r=i/\t7 O.s i):=by
 refine (I.sr.run I.st.ci.g).mono ?_;rintro e Y ⟨aa,rfl,J,V,Q,U,Z,ex,X⟩;refine ⟨_,rfl,V,{x with s:=J},⟨Q,I.st.run Z ex,I.Cf,I.zQ,I.ke,?_,?_,?_,?_,?_,I.pt.run ex,?_,?_,I.hb⟩,U,?_,X⟩
 . have:=I.cf;show 0<=x.m.cf/\x.m.cf<=J.nc/\_;rw [ex.n];exact this
 . have:=I.de;show 0<=x.m.de/\x.m.de<=1000*x.m.cf+ (J.R .be).length;rw [ex.be];exact this
 . have:=I.re;show 0<=x.m.re/\x.m.re<=J.nc;rw [ex.n];exact this
 . have:=I.dr;show 0<=x.m.dr/\x.m.dr+x.hv.length<=J.nc;rw [ex.n];exact this
 . have:=I.pl;show x.pr.length+x.hv.length+2*cs.length<=2*J.nc;rw [ex.n];exact this
 . have:=I.nc;show J.nc+μ<=262143;rw [ex.n];exact this
 . have:=I.cn;show J.nc+μ<=_;rw [ex.n];exact this
 . show μ* (N+1)+ (N - (J.R .be).length)=_;rw [ex.be];rfl
theorem yH.NV {b lrn:Int} (I:yH K w0 w B L N cs b lrn x μ) (hN:N<=1000) (O:dz x.s):Calls prog cS.id #[bL B] w fun e w'=> ∃r:Bool,e= .returned (.bool r)/\∃ (L':Nat->Nat) (Y:Xs),yH K w0 w' B L' N cs b lrn Y μ/\Kp w0 w w' L L'/\((r=false/\dz Y.s/\∀v:Int,1<=v->v<=N->Y.s.val v≠0)\/(r=true/\DT N μ Y<DT N μ x)):=by
 refine (CA I.sr I.st.ci.g I.st.ci.v hN I.st.ph I.st.hi).mono ?_;rintro e ad ⟨ap,rfl,U,S',X,hd⟩;rcases hd with ⟨rfl,ha,Q⟩| ⟨rfl,v,hv,h0,hi,Q⟩
 . exact ⟨_,rfl,U,{x with S:=S'},⟨Q,⟨I.st.ci,fun v v1 v2 h0=>absurd h0 (ha v v1 v2),I.st.ph,I.st.n,I.st.Kx,I.st.bE,I.st.pf,I.st.mo⟩,I.Cf,I.zQ,I.ke,I.cf,I.de,I.re,I.dr,I.pl,I.pt,I.nc,I.cn,I.hb⟩,X,.inl ⟨rfl,O,ha⟩⟩
 . have hv':dB x.s.vars v:=by rw [I.st.ci.v];exact hv
   have J:=I.st.ci.decide O hv' h0;have enc:(x.s.decide v).nc=x.s.nc:=rfl;obtain ⟨d1,d2⟩:=I.de;obtain ⟨c1,c2,c3⟩:=I.cf;have V:=I.nc;have Z:((x.s.decide v).R .be).length=(x.s.R .be).length+1:=by rw [pQ];simp
   have av:((x.s.decide v).R .be).length<=N:=by have:=J.g.Kq;have:=J.g.yL;have:=J.v;omega
   have e1:IntKind.i64.wrap (x.m.de+1)=x.m.de+1:=aD (by omega) (by omega);refine ⟨_,rfl,U,{x with s:=x.s.decide v,S:=S',m:= {x.m with de:=IntKind.i64.wrap (x.m.de+1)}},⟨Q,⟨J,hi,I.st.ph,I.st.n,I.st.Kx,I.st.bE,I.st.pf.decide,I.st.mo⟩,I.Cf,I.zQ,I.ke,?_,?_,?_,?_,?_,I.pt.uc I.st.ci.g O,?_,I.cn,I.hb⟩,X,.inr ⟨rfl,?_⟩⟩
   . show 0<=x.m.cf/\x.m.cf<=(x.s.decide v).nc/\(0<=b->x.m.cf<=b)
     rw [enc];exact ⟨c1,c2,c3⟩
   . show 0<=IntKind.i64.wrap (x.m.de+1)/\IntKind.i64.wrap (x.m.de+1)<=1000*x.m.cf+ (((x.s.decide v).R .be).length:Int)
     rw [e1,Z];omega
   . show 0<=x.m.re/\x.m.re<=(x.s.decide v).nc;rw [enc];exact I.re
   . show 0<=x.m.dr/\x.m.dr+x.hv.length<=(x.s.decide v).nc;rw [enc];exact I.dr
   . show x.pr.length+x.hv.length+2*cs.length<=2* (x.s.decide v).nc;rw [enc];exact I.pl
   . show (x.s.decide v).nc+μ<=262143;rw [enc];exact V
   . show μ* (N+1)+ (N - ((x.s.decide v).R .be).length)<μ* (N+1)+ (N - (x.s.R .be).length)
     exact Nat.add_lt_add_left (by omega) _
theorem yH.drew {b lrn:Int} (I:yH K w0 w B L N cs b lrn x μ):yH K w0 w.drew B L N cs b lrn x μ:=⟨I.sr.drew,I.st,I.Cf,I.zQ,I.ke,I.cf,I.de,I.re,I.dr,I.pl,I.pt,I.nc,I.cn,I.hb⟩
theorem yH.Mv {b lrn:Int} (ok:Ml K N lrn) (J:yH K w0 w B L N cs b lrn x μ) (hN:N<=1000) (hB:t7 x.s i) (r:0< (x.s.R .be).length) (U:0<=b->x.m.cf<b):
 Calls prog bW.id #[bL B,.int .i64 i] w fun e w'=>e= .returned (.tuple #[])/\∃ (L':Nat->Nat) (Y:Xs) (V:Nat),yH K w0 w' B L' N cs b lrn Y V/\Kp w0 w w' L L'/\DT N V Y<DT N μ x:=by
 obtain ⟨c1,c2,c3⟩:=J.cf;have bb:=J.re;have aw:=J.pl;have a_:=J.dr;have Z:=J.nc;have ad:=J.de;have ag:=J.hb;have a7:=J.cn;have gJ:=J.st.ci.g;have a':x.un.length<=2*N+2:=by
  obtain ⟨_,_,_,_,_,_,_,_,h4,_⟩:=J.pt;have:=It J.st.ci fun c hc=>by
   obtain ⟨d,hd,rfl⟩:=List.mem_map.1 hc;exact h4 d hd
  rwa [List.length_map] at this
 have hq:((x.hv.length+1:Nat):Int)<Re.kC lrn 100:=by
  rw [vY ok.hl (by omega)];have:=ok.hq;have:x.hv.length+1<QuP.quo lrn.toNat 100:=by omega
  exact Int.ofNat_lt.2 this
 have I:=J.st.bE;refine (At J.sr J.st hN ⟨by omega,by omega⟩ (by rw [J.Cf];exact hq) hB r (by omega) (by omega) (by omega) (by omega) (by omega)).mono ?_;rintro e aa ⟨rfl,L2,X,S2,k2,Q,C⟩;obtain ⟨V,P',m'⟩:=J.pt.EZ ok J.Cf Q C I (by omega);refine ⟨rfl,L2,X,V,⟨S2,Q,by rw [C.lrn];exact J.Cf,by rw [C.vj];exact J.zQ,by rw [C.ke];exact J.ke,?_,?_,?_,?_,?_,P',?_,?_,?_⟩,k2,?_⟩
 . have h1:=C.nc;have O:=C.cf;rw [O];refine ⟨by omega,by omega,fun hb=>by have:=U hb;omega⟩
 . have h1:=C.de;have O:=C.cf;have aT:(x.s.R .be).length<=1000:=by have:=gJ.Kq;have:=gJ.yL;have:=J.st.ci.v;omega
   rw [h1,O];omega
 . have h1:=C.nc;have O:=C.re;omega
 . have h1:=C.nc;have O:=C.dr;omega
 . have h1:=C.nc;have O:=C.pl;omega
 . have h1:=C.nc;omega
 . have h1:=C.nc;omega
 . obtain ⟨h1,e1,e2⟩:=C.ch;have:h1<=x.hv.length+1:=by omega
   have:X.hv.length<=h1:=by omega
   omega
 . unfold DT;have O:(N - (X.s.R .be).length)<=N:=Nat.sub_le _ _;have h3:(V+1)* (N+1)<=μ* (N+1):=Nat.mul_le_mul_right _ m';rw [Nat.succ_mul] at h3;omega
theorem Jc {b lrn:Int} {z:Nat} (U:z<=w0.heap.size) {Q:Nat} {q:Sl} (J:yH K w0 w1 B L1 N cs b lrn x μ) (hN:N<=1000) (O:dz x.s) (ha: ∀v:Int,1<=v->v<=N->x.s.val v≠0) (S:SR w0 w B L N {x with m:= {x.m with ke:=1},ps:=Sl.nil,pr:= [],ms:=q,mo:=kO x.s N}) (h5:Q<w0.heap.size) (m:aF (·=Q) w w'):
 BD z w' N K.T cs b (.returned (.tuple #[.agg #[.int .i64 1,.slice q.p q.n q.c,.slice none 0 0,.int .i64 x.m.cf,.int .i64 x.m.de,.int .i64 x.m.re,.int .i64 x.m.dr],.int .i64 0])):=by
 obtain ⟨d1,d2,d3⟩:=Hv J.st.ci hN O ha;obtain ⟨o1,o2,o3⟩:=S.mo id;have o2:q.n=(kO x.s N).length:=o2;have o1:da aC w q.p q.c (kO x.s N):=o1;refine ⟨_,_,_,_,_,_,_,_,_,_,_,_,rfl,J.cf.1,J.de.1,J.re.1,J.dr.1,.inr (.inl ⟨rfl,rfl,rfl,J.cf.2.2,kO x.s N,o2,o1.vw.keep m fun k I (e:k=Q)=> ?_,fun k I=>Nat.le_trans U (o3 k I).2,d1,d2,d3⟩)⟩;have h1:=(o3 k I).2;omega
theorem Ey {b lrn:Int} {z:Nat} {I:Nat} {q sl:Sl} (J:yH K w0 w1 B L1 N cs b lrn x μ) (V:t7 x.s i) (U:x.s.R .be= []) (S:SR w0 w B L N {x with m:= {x.m with ke:=2},ps:=q,pr:=x.pr++ [(false,sl,[])]}) (h5:I<w0.heap.size) (Z:L I=4) (m:aF (·=I) w w'):
 BD z w' N K.T cs b (.returned (.tuple #[.agg #[.int .i64 2,.slice x.ms.p x.ms.n x.ms.c,.slice q.p q.n q.c,.int .i64 x.m.cf,.int .i64 x.m.de,.int .i64 x.m.re,.int .i64 x.m.dr],.int .i64 0])):=by
 obtain ⟨o1,o2,o3⟩:=S.mo id;obtain ⟨O,p2,Y⟩:=S.pr id;have p2:q.n=(x.pr++ [(false,sl,[])]).length:=p2;have O:Row 2 KF mi w q.p q.c (x.pr++ [(false,sl,[])]):=O;have o2:x.ms.n=x.mo.length:=o2;refine ⟨_,_,_,_,_,_,_,_,_,_,_,_,rfl,J.cf.1,J.de.1,J.re.1,J.dr.1,.inr (.inr ⟨rfl,rfl,by rw [o2,J.st.mo];rfl,J.cf.2.2,CB J.st.ci V U,x.pr++ [(false,sl,[])],p2,(O.vr GC).keep m fun k Q (e:k=I)=> ?_,fun v hv=> ?_,?_⟩)⟩
 . have h1:=(Y k Q).2;omega
 . have ro:=S.rr id v hv;exact ⟨ro.n,ro.v.keep m fun k Q (e:k=I)=>by
    have h1:=(ro.l k Q).1;rw [e,Z] at h1;exact absurd h1 (by decide)⟩
 . rw [List.map_append];have:=PF.dV J.st.pf J.st.ci.g V U;rw [J.st.ci.v] at this;have h1:=J.pl;have h2:=J.cn;have X:=O.cap;rw [List.length_append,List.length_singleton] at X p2 ⊢;exact ⟨this,by omega,by omega⟩
theorem Gb {b uni lrn:Int} {q:Option Addr} {m d I pb hb n49:Nat} {s:aH} {H:Pt->Sl} {z:Hp.HS} (G:ao w0 w) (X:I=w0.heap.size+1) (hN:N<=1000)
 (h:bA w I (Xs.cells {m:=⟨N,⟨q,m,d⟩,b,uni,lrn,uni,1,uni,0,0,0,0,0,0⟩,pb:=pb,hb:=hb,DS:=⟨some ⟨w0.heap.size,0,none⟩,N+1,N+1⟩,hs:=Sl.nil,us:=Sl.nil,ps:=Sl.nil,ms:=Sl.nil,s:=s,S:=fun _=>True,ph:=List.replicate (N+1) 0,hv:= [],un:= [],pr:= [],mo:= []}))
 (pm:PM w pb H s) (Q: ∀y k,own pb H y=some k->I<k/\k<n49) (hr:Hp.bZ w hb z) (hf:Hp.wR z N N) (O: ∀k,z.bK hb k->n49<=k) (hn:I<n49) (o:da aC w (some ⟨w0.heap.size,0,none⟩) (N+1) (List.replicate (N+1) 0)) (Y:aL s) (nd:Iu N cs s) (ok:Ml K N lrn) (V:uni=K.u) (Z:cs.length+K.T<=262143):
 ∃μ,yH K w0 w I (fun k=>if k<I then 4 else if k=I then 1 else if k<n49 then 2 else 3) N cs b lrn {m:=⟨N,⟨q,m,d⟩,b,uni,lrn,uni,1,uni,0,0,0,0,0,0⟩,pb:=pb,hb:=hb,DS:=⟨some ⟨w0.heap.size,0,none⟩,N+1,N+1⟩,hs:=Sl.nil,us:=Sl.nil,ps:=Sl.nil,ms:=Sl.nil,s:=s,S:=fun _=>True,ph:=List.replicate (N+1) 0,hv:= [],un:= [],pr:= [],mo:= []} μ:=by
 obtain ⟨μ,P,hμ⟩:=D9.new (x:= {m:=⟨N,⟨q,m,d⟩,b,uni,lrn,uni,1,uni,0,0,0,0,0,0⟩,pb:=pb,hb:=hb,DS:=⟨some ⟨w0.heap.size,0,none⟩,N+1,N+1⟩,hs:=Sl.nil,us:=Sl.nil,ps:=Sl.nil,ms:=Sl.nil,s:=s,S:=fun _=>True,ph:=List.replicate (N+1) 0,hv:= [],un:= [],pr:= [],mo:= []}) ok nd.be nd.v V rfl V rfl rfl rfl;have hT:=ok.ht;refine ⟨μ,?_⟩;have nn: ∀k,aJ (none:Option Addr)≠some k:=fun k J=>by simp [aJ] at J
 have hl:=h.lt;have U:=nd.n;refine ⟨⟨G,fun _=>h,⟨?_,by omega,hl⟩,fun _=> ⟨H,pm,fun y k J=> ⟨?_,?_⟩⟩,fun _=> ⟨z,hr,hf.NS (by omega),fun v v1 v2=> ?_,fun k J=> ⟨?_,?_⟩⟩,fun _=> ⟨o,by simp,fun k J=> ?_⟩,fun _=> ⟨Row.nil _ _ _ _,rfl,fun k J=>absurd J (nn k)⟩,fun _ u hu=>by simp at hu,fun _=> ⟨Ow.nil _ _ _,rfl,fun k J=>absurd J (nn k)⟩,fun _ u hu=>by simp at hu,fun _=> ⟨Row.nil _ _ _ _,rfl,fun k J=>absurd J (nn k)⟩,fun _ u hu=>by simp at hu,fun _=> ⟨Ow.nil _ _ _,rfl,fun k J=>absurd J (nn k)⟩⟩,
  ⟨IQ nd Y,JF fun _=>trivial,by simp,rfl,by simp,⟨Int.le_refl _,by show (0:Int)<=100;decide⟩,PF.new nd,rfl⟩,rfl,rfl,rfl,⟨Int.le_refl _,by show (0:Int)<=(s.nc:Int);omega,fun h=>h⟩,⟨Int.le_refl _,by show (0:Int)<=1000*0+ ((s.R .be).length:Int);omega⟩,⟨Int.le_refl _,by show (0:Int)<=(s.nc:Int);omega⟩,⟨Int.le_refl _,by show (0:Int)+ ((0:Nat):Int)<=(s.nc:Int);omega⟩,by show 0+0+2*cs.length<=2*s.nc;omega,P,?_,by show s.nc+μ<=_;omega,by show 0+μ<=_;omega⟩
 . show (if I<I then 4 else if I=I then 1 else _)=1;rw [if_neg (by omega),if_pos rfl]
 . have h1:=Q y k J;show (if k<I then 4 else if k=I then 1 else if k<n49 then 2 else 3)=2;rw [if_neg (by omega),if_neg (by omega),if_pos (by omega)]
 . have h1:=Q y k J;omega
 . rw [hf.au v (by omega) (by omega),if_pos v2];exact ⟨fun _=>trivial,fun _=>by omega⟩
 . have h1:=O k J;show (if k<I then 4 else if k=I then 1 else if k<n49 then 2 else 3)=3;rw [if_neg (by omega),if_neg (by omega),if_neg (by omega)]
 . have h1:=O k J;omega
 . have h1:=aO J;subst h1;refine ⟨?_,Nat.le_refl _⟩;show (if w0.heap.size<I then 4 else _)=4;rw [if_pos (by omega)]
 . show s.nc+μ<=_;omega
theorem vO {k b uni lrn:Int} {q:Option Addr} {m d:Nat} {hs:List Sl} (hc:V2 (Value.int .i64) w q hs cs) (hm:m=cs.length) (d9:ff k cs=true) (aa:qi uni lrn=true) (U:k=N) (hN:N<=1000) (ok:Ml K N lrn) (hK:uni=K.u) (ew:cs.length+K.T<=262143):
 Calls prog jS.id #[.agg #[.int .i64 k,.slice q m d],.agg #[.int .i64 b,.int .i64 uni,.int .i64 lrn]] w fun e w'=>BD w.heap.size w' N K.T cs b e/\ao w w':=by
 subst U;refine jS.ak ?_;intro n1 w2 h2 n3 w4 h4 n5 w6 h6;have G6:=(h2.mod.trans h4.mod).trans h6.mod;have A1:=(h2.has.grow h4.mod).grow h6.mod;have A3:=h4.has.grow h6.mod;have e1:=h2.num;have e3:=h4.num;have e5:=h6.num;have s2:=h2.size;have s4:=h4.size;have s6:=h6.size;refine ⟨_,_,_,_,⟨ae A1 rfl,ae A1 rfl,trivial⟩,(l9 (hc.grow G6) hm).mono ?_⟩;rintro e w9 ⟨rfl,g9⟩;rw [d9];refine ⟨_,rfl,bm rfl ⟨_,_,_,⟨ae (A3.grow g9) rfl,ae (A3.grow g9) rfl,ae (A3.grow g9) rfl,trivial⟩,(EO _ _ _ _).mono ?_⟩⟩;rintro e a7 ⟨rfl,ek⟩;rw [aa];have gd:ao a7 a7.drew:=(aF.refl a7).drew;have Z:=(g9.trans ek).trans gd;have V0:=(hc.grow G6).grow Z;have B1:=A1.grow Z;have B3:=A3.grow Z;have B5:=h6.has.grow Z;have ej:=Z.size;obtain ⟨w0,c3⟩: ∃w0,w0=a7.drew:=⟨_,rfl⟩
 have Gw:ao w w0:=by rw [c3];exact G6.trans Z
 rw [<- c3] at B1 B3 B5 V0 ej ⊢;refine ⟨_,rfl,bm rfl ⟨ao w0,aF.refl _,_,_,_,_,fun v gv=> ⟨ae (B1.grow gv) rfl,ae (B1.grow gv) rfl,trivial⟩,_,_,_,fun v gv=> ⟨ae (B3.grow gv) rfl,ae (B3.grow gv) rfl,ae (B3.grow gv) rfl,trivial⟩,_,fun v gv=>ae (B1.grow gv) rfl,?_⟩⟩;have e0:IntKind.i64.wrap ((N:Int)+1)=((N+1:Nat):Int):=by rw [aD (by omega) (by omega)];omega
 rw [e0];refine oX rM Re.ik (x:=(0:Int)) rfl (N+1) rfl (by omega) fun gw en dw z39=> ⟨dw,fun O gz Y=> ?_⟩
 have fL:=Y.num;have gV:=Y.size;have az:=dw.trans Y.mod;refine ⟨_,_,_,_,⟨ae (B1.grow az) rfl,ae (B1.grow az) rfl,trivial⟩,(zX (V0.grow az) hm).mono ?_⟩;rintro e gb (⟨d8,_,_⟩| ⟨_,pb,s,H,rfl,pm,gs,nd,a_,hH⟩)
 . rw [d9] at d8;exact absurd d8 (by decide)
 rw [Int.toNat_natCast] at nd;have gy:=a_.size;have f1:=Y.has.lt;refine ⟨_,_,rfl,_,rfl,?_⟩;refine bO (Y.has.grow a_) rfl rfl fun du cm a8=> ?_;have fP:=a8.size;have a':=pm.keep a8 fun y k U (e:k=O)=>by have:=hH y k U;omega
 have d':ao w0 du:=(az.trans a_).then a8 fun k U e=>by omega
 refine ⟨_,ae (B1.grow d') rfl,(Hp.zX N (by omega)).mono ?_⟩;rintro e f' ⟨hb,z,rfl,hr,hf,b5,ad⟩;have gc:=ad.size;refine ⟨_,_,rfl,_,rfl,?_⟩;refine bO (cm.grow ad) rfl rfl fun ez dc ar=> ?_;have gl:=ar.size;have bc:=(a'.grow ad).keep ar fun y k U (e:k=O)=>by have:=hH y k U;omega
 have bk:=hr.keep ar fun k U (e:k=O)=>by have:=b5 k U;omega
 have cg:ao w0 ez:=(d'.trans ad).then ar fun k U e=>by omega
 refine ⟨_,ae (B3.grow cg) rfl,(Lu.Di _ _).mono ?_⟩;rintro e g1 ⟨rfl,X⟩;have gf:=X.size;have ey:1<=uni/\uni<=1048576:=by
  unfold qi at aa;simp only [decide_eq_true_eq] at aa;omega
 rw [if_pos ey];refine ⟨_,_,_,_,rfl,_,rfl,?_⟩;refine bO (dc.grow X) rfl rfl fun dp b' av=> ?_;have bx:=(bc.grow X).keep av fun y k U (e:k=O)=>by have:=hH y k U;omega
 have bY:=(bk.grow X).keep av fun k U (e:k=O)=>by have:=b5 k U;omega
 have eu:ao w0 dp:=(cg.trans X).then av fun k U e=>by omega
 have fT:=av.size;have cp:da aC dp (some ⟨w0.heap.size,0,none⟩) (N+1) (List.replicate (N+1) 0):=((((((en.grow Y.mod).grow a_).keep a8 fun k U (e:k=O)=>by have:=aO U;omega).grow ad).keep ar fun k U (e:k=O)=>by have:=aO U;omega).grow X).keep av fun k U (e:k=O)=>by have:=aO U;omega
 obtain ⟨μ0,dT⟩:=Gb (cs:=cs) (b:=b) (lrn:=lrn) (n49:=du.heap.size) eu (by omega) hN b' bx (fun y k U=>by have:=hH y k U;have:=pm.lt y k U;omega) bY hf b5 (by omega) cp gs nd ok hK ew;clear b' bx bY cp dc bc bk cm a' hr hf;refine ⟨fun u z=> ∃ (L:Nat->Nat) (x:Xs) (μ:Nat),yH K w0 u O L N cs b lrn x μ/\L n5=4/\z=DT N μ x,⟨_,_,_,_,dT,by show (if n5<O then 4 else _)=4;rw [if_pos (by omega)],rfl⟩,?_⟩;clear dT;have l5:n5<w0.heap.size:=B5.lt;rintro fl fA _ ⟨L,x,μ,I,et,rfl⟩;have lb: ∀ {u v:World} {L1 L2:Nat->Nat},ao w0 u->Kp w0 u v L1 L2->L1 n5=4->L2 n5=4:=fun gu k h=>by rw [k.Ac n5 (Nat.lt_of_lt_of_le l5 gu.size)];exact h
 have gW: ∀ {u v:World} {L2:Nat->Nat} {y:Xs},SR w0 u O L2 N y->aF (·=n5) u v->ao w v:=fun S m=>aF.bV (Gw.trans S.g) m (by omega);refine ⟨_,rfl,_,ae I.sr.at rfl,I.Om.mono ?_⟩;rintro e g0 ⟨ag,rfl,er,e2,aT,ep,es,hh⟩;have ax:=lb I.sr.g ep et;refine ⟨_,rfl,fun v u=> (v=true/\ag<0/\∃L1 Q μ1,yH K w0 u O L1 N cs b lrn Q μ1/\L1 n5=4/\dz Q.s/\∀v:Int,1<=v->v<=N->Q.s.val v≠0)\/(v=false/\ag<0/\∃L1 Q μ1,yH K w0 u O L1 N cs b lrn Q μ1/\L1 n5=4/\DT N μ1 Q<DT N μ x)\/(v=false/\∃ (L1:Nat->Nat) (Q:Xs) (μ1 i:Nat),yH K w0 u O L1 N cs b lrn Q μ1/\L1 n5=4/\DT N μ1 Q=DT N μ x/\ag=i/\t7 Q.s i),?_,?_⟩
 . refine aj (fun r=> ?_) (fun r=> ?_)
   . have r:ag<0:=by simpa using r
     have b4:dz e2.s:=by
      rcases hh with ⟨_,c⟩| ⟨i,e,_⟩
      . exact c
      . omega
     refine (aT.NV hN b4).mono ?_;rintro e fi ⟨fq,rfl,c1,dk,c2,d4,hd⟩;refine ⟨_,rfl,?_⟩;rcases hd with ⟨rfl,ei,ha⟩| ⟨rfl,b7⟩
     . exact .inl ⟨rfl,r,c1,dk,_,c2,lb aT.sr.g d4 ax,ei,ha⟩
     . exact .inr (.inl ⟨rfl,r,c1,dk,_,c2,lb aT.sr.g d4 ax,by omega⟩)
   . have r: ¬ag<0:=by simpa using r
     rcases hh with ⟨e,_⟩| ⟨i,e,hB⟩
     . omega
     . exact .inr (.inr ⟨rfl,er,_,_,i,aT,ax,es,e,hB⟩)
 . rintro gP f0 _ (⟨rfl,_,L1,Q,μ1,J,aw,b4,ha⟩| ⟨rfl,r,L1,Q,μ1,J,aw,b7⟩| ⟨rfl,L1,Q,μ1,i,J,aw,gA,rfl,hB⟩)
   . refine cu rfl ((IX J.sr J.st.ci.g J.st.ci.v hN J.st.n J.st.mo).mono ?_);rintro e fs ⟨rfl,fu,gS,a6,fd⟩;exact ⟨rfl,HY (K:=fun v w'=>BD w.heap.size w' N K.T cs b (.returned (.tuple #[v,.int .i64 0]))/\ao w w') a6.at (B5.grow a6.g) fun w' m'=> ⟨Jc (x:=Q) Gw.size J hN b4 ha a6 l5 m',gW a6 m'⟩⟩
   . exact bm rfl (cu (by simpa using r) ⟨_,b7,L1,Q,_,J,aw,rfl⟩)
   . obtain ⟨H1,el,_⟩:=J.sr.pm id;refine bm rfl (bm (by simp) ⟨_,rfl,_,ae J.sr.at rfl,(EQ el).mono ?_⟩);rintro e eN ⟨rfl,rfl⟩;refine ⟨_,rfl,aj (fun r=> ?_) (fun r=> ?_)⟩
     . have r:(Q.s.R .be).length=0:=by simpa using r
       have r:Q.s.R .be= []:=List.eq_nil_of_length_eq_zero r;have gn:=J.pl;have fa:=J.nc;refine (DZ J.sr (by omega) (l:= []) (p:=none) (n:=0) (c:=0) Vw.nil rfl (by omega)).mono ?_;rintro e gm ⟨rfl,fm,gr,e9,b6,eH⟩;refine ⟨rfl,_,rfl,?_⟩;refine ig b6.at rfl rfl fun e8 di cT=> ?_;obtain ⟨V,c7⟩:=b6.own (m':= {Q.m with ke:=2}) di cT;exact HY (K:=fun v w'=>BD w.heap.size w' N K.T cs b (.returned (.tuple #[v,.int .i64 0]))/\ao w w') V.at (B5.grow V.g) fun w' m'=> ⟨Ey (x:=Q) J hB r V l5 (lb b6.g c7 (lb J.sr.g eH aw)) m',gW V m'⟩
     . have r:0< (Q.s.R .be).length:=by
        rcases Nat.eq_zero_or_pos (Q.s.R .be).length with e|e
        . rw [e] at r;simp at r
        . exact e
       have D:=J.drew;have zQ:=J.zQ;have EZ:(0<=b->Q.m.cf<b)->Calls prog bW.id #[.pointer (some (Addr.mk O 0 none)),.int .i64 i] eN.drew fun e bu=>e= .returned (.tuple #[])/\∃d5,d5<DT N μ x/\∃ (L:Nat->Nat) (x:Xs) (μ:Nat),yH K w0 bu O L N cs b lrn x μ/\L n5=4/\d5=DT N μ x:=by
        intro c0;refine (D.Mv ok hN hB r c0).mono ?_;rintro e bu ⟨rfl,L2,x2,μ2,I2,k2,b7⟩;exact ⟨rfl,_,by omega,L2,x2,μ2,I2,lb D.sr.g k2 aw,rfl⟩
       refine ⟨_,rfl,_,bG D.sr.at rfl,?_⟩;rw [zQ];refine aj (fun rb=> ?_) (fun rb=> ?_)
       . have rb:0<=b:=by simpa using rb
         refine ⟨_,rfl,_,bG D.sr.at rfl,_,rfl,_,bG D.sr.at rfl,?_⟩;rw [zQ];refine aj (fun rc=> ?_) (fun rc=> ?_)
         . have rc:b<=Q.m.cf:=by simpa using rc
           refine ⟨_,rfl,?_⟩;refine ig D.sr.at rfl rfl fun bb ap ce=> ?_;have ap:bA bb O ({Q with ps:=Sl.nil}:Xs).cells:=ap;have an:ao w0 bb:=D.sr.g.then ce fun k U (e:k=O)=>by omega
           obtain ⟨o1,o2,o3⟩:=D.sr.mo id;refine HY (K:=fun v w'=>BD w.heap.size w' N K.T cs b (.returned (.tuple #[v,.int .i64 6]))/\ao w w') ap (B5.grow an) fun w' m'=> ⟨?_,aF.bV (Gw.trans an) m' (by omega)⟩
           have:=J.cf.2.2 rb;exact ⟨_,_,_,_,_,_,_,_,_,_,_,_,rfl,J.cf.1,J.de.1,J.re.1,J.dr.1,.inl ⟨rfl,J.ke,by show Q.ms.n=0;rw [o2,J.st.mo];rfl,rfl,rb,by show Q.m.cf=b;omega⟩⟩
         . have rc: ¬b<=Q.m.cf:=by simpa using rc
           exact EZ fun _=>by omega
       . have rb: ¬0<=b:=by simpa using rb
         exact EZ fun h=>absurd h rb
end
end Go.Proofs.YtenmibfmhccmiaaGreat.W
