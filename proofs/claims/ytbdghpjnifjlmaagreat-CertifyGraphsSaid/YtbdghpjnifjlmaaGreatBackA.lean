/- slices.Backward's iterator: its contract. -/
import Derived.Test.YtbdghpjnifjlmaaGreatRupB
import Derived.RangeFuncBox
import Derived.RangeFuncLeaves
import Derived.Shelf.Abstract
import Derived.WalkKit
import Derived.OwnWalkIn
import Derived.TacticsInMore
import Derived.LoopNIn
import Derived.LoopIn
set_option linter.all false
namespace Go.Proofs
open Go.RowKit Go.Shelf Go.Fw
attribute [local go_sem] Oper.semAt_some
def T5(I:List Int)(k:Nat):Int × Int:=(((I.length - 1 - k:Nat):Int),I[I.length - 1 - k]?.getD 0)
def Ho(I:List Int)(k:Nat):List (Int × Int):=(List.range k).map (T5 I)
theorem OZ(I:List Int)(k:Nat):Ho I (k+1)=Ho I k++ [T5 I k]:=by simp[Ho,Xh]
theorem IM(I:List Int)(k:Nat):(Ho I k).length=k:=by simp[Ho]
set_option maxRecDepth 100000 in
set_option maxHeartbeats 2000000 in
theorem T9(n:Nat)(hn:1<=n)(l X b cap:Nat)(I:List Int)(ac:I.length*8<=140737488351232)(T:Nat->Prop)(ay:T X)(ax:T b)
 (J Jx:List {x:Int × Int // x.2∈I}->World->Prop)
 (hY:∀df x W1,J df W1->df.length<I.length->YieldAt Fence.wide (n - 1) Tryz.prog l #[.i x.1.1,.i x.1.2] W1 λe V=>
   (e=.returned (.bool true)/\J (df++ [x]) V/\Ug T W1 V)\/(e=.returned (.bool false)/\Jx (df++ [x]) V))
 (W:World) (ag:W.cell? ⟨X,0,none⟩=some (.slice (some ⟨b,0,none⟩) I.length cap)) (hc:∀j,j<I.length->W.cell? ⟨b,0+j,none⟩=some (.i (I[j]?.getD 0))) (h0:J [] W):
 CallsIn Fence.wide n Tryz.prog 211 #[.func (.yield l) #[] #[],.pointer (some ⟨X,0,none⟩)] W λe V=> (∃v,e=.returned v)/\
  ((∃O,O.map (·.1)=Ho I I.length/\J O V)\/(∃df,True/\Jx df V)):=by
 refine callsIn_of_wp Tryz.func211 rfl trivial ?_ rfl;simp only[show Tryz.f211.ntmps=19 from rfl,XK,Wz,Xi,Nat.reduceAdd,Nat.reduceSub,Array.replicate_succ,Array.replicate_zero,List.push_toArray,List.append_toArray,WY,Yg]
 gi_wp2
 gi_loopw [3] (λi wr=>∃k:Nat,k<=I.length/\i=.i ((I.length:Int) - 1 - k)/\(∃O,O.map (·.1)=Ho I k/\J O wr)/\Ug T W wr)
  (λi _=> (intOf i+1).toNat)
 case atStart=>exact⟨0,xc _,by simp,⟨[],rfl,h0⟩,λ_ _=>rfl⟩
 case round=>
  obtain⟨k,hk,rfl,⟨O,U,Z⟩,Q⟩:=hrel;have a8:wr.cell? ⟨X,0,none⟩=some (.slice (some ⟨b,0,none⟩) I.length cap):=by
   rw[<- ag];exact World.cell?_of_block (Q X ay)
  by_cases ar:k<I.length
  .have bf:wr.cell? ⟨b,I.length - 1 - k,none⟩=some (.i (I[I.length - 1 - k]?.getD 0)):=by
    have:=hc (I.length - 1 - k) (by omega);rw[Wr]at this;rw[<- this];exact World.cell?_of_block (Q b ax)
   have aa:I[I.length - 1 - k]?.getD 0∈I:=by simp[show I.length - 1 - k<I.length by omega]
   have aw:O.length=k:=by have:=congrArg List.length U;simpa[Ho]using this
   obtain⟨fn,tmps,assign,body,hy,hR⟩:=hY O ⟨T5 I k,aa⟩ wr Z (by rw[aw];exact ar);dsimp only[T5]at hy;have ei:(I.length:Int) - 1 - k=((I.length - 1 - k:Nat):Int):=by omega
   rw[ei];have ge:(0:Int)<=((I.length - 1 - k:Nat):Int):=by omega
   gi_wp2
   refine hR.mono ?_;rintro e W3 (⟨rfl,an,av⟩| ⟨rfl,Y⟩)
   .gi_wp2
    go_roundw
    case rel=>exact⟨k+1,by omega,by simp;omega,⟨_,by rw[GD,U,OZ];rfl,an⟩,λj hj=> (av j hj).trans (Q j hj)⟩
    case measure=>simp[intOf]
   .gi_wp2
    refine bodyPost_ret (results_none rfl _ _ _) rfl ?_;exact⟨⟨_,rfl⟩,.inr ⟨_,trivial,Y⟩⟩
  .obtain rfl:k=I.length:=by omega
   have ei:(I.length:Int) - 1 - (I.length:Int)= -1:=by omega
   rw[ei]
   gi_wp2
   go_end0
   exact⟨⟨_,rfl⟩,.inl ⟨_,U,Z⟩⟩
set_option maxRecDepth 100000 in
set_option maxHeartbeats 2000000 in
theorem SB(n:Nat)(l O:Nat)(J:List {x:Int × Int // x.2∈([]:List Int)}->World->Prop)(W:World)(V:W.cell? ⟨O,0,none⟩=some (.slice none 0 0))(Q:J [] W):
 CallsIn Fence.wide n Tryz.prog 211 #[.func (.yield l) #[] #[],.pointer (some ⟨O,0,none⟩)] W λe U=> (∃v,e=.returned v)/\J [] U:=by
 refine callsIn_of_wp Tryz.func211 rfl trivial ?_ rfl;simp only[show Tryz.f211.ntmps=19 from rfl,XK,Wz,Xi,Nat.reduceAdd,Nat.reduceSub,Array.replicate_succ,Array.replicate_zero,List.push_toArray,List.append_toArray,WY,Yg]
 gi_wp2
 gi_loopw [3] (λi wr=>i=.i (-1)/\J [] wr) (λ_ _=>0)
 case atStart=>exact⟨rfl,Q⟩
 case round=>
  obtain⟨rfl,I⟩:=hrel
  gi_wp2
  go_end0
  exact⟨⟨_,rfl⟩,I⟩
open Go.Proofs.YtbdghpjnifjlmaaGreat.W in
theorem Nr{w:World}{Q:Nat}{X:sn}{cap:Nat}{O:List Int}(hB:bO w Q #[.slice X O.length cap])(o:d_ aB w X cap O)(I:O.length*8<=140737488351232):
 TJ Tryz.prog 211 #[.pointer (some ⟨Q,0,none⟩)] (Ho O O.length) (λp=>p.2∈O) (λk=>k=Q\/aF X=some k) w:=by
 intro n hn l J Jx W hW _ _ hY Y;have g:=Go.Fw.aE.Ns hW;have U:=hB.grow g;have o':=o.grow g;rcases o'.un with⟨rfl,rfl,rfl⟩| ⟨b,cur,rfl,_⟩
 .exact (SB n l Q J W (aP U rfl) Y).mono λe W' ⟨he,V⟩=>⟨he,.inl ⟨[],rfl,V⟩⟩
 .refine T9 n hn l Q b cap O I (λk=>k=Q\/aF (some (⟨b,0,none⟩:Addr))=some k) (.inl rfl) (.inr rfl) J Jx (λdf x W1 h1 h2=>hY df x W1 h1 (by rw[IM];exact h2)) W (aP U rfl) (λj V=>?_) Y;obtain⟨a,e,Z⟩:=o'.vw j V;cases e;rw[cA]at Z;rw[Z];simp[V]
end Go.Proofs
namespace Go.Proofs.YtbdghpjnifjlmaaGreat.W
open Go Go.Fw Go.RowKit Go.SoP Go.LiP Go.LeP
open Go.Proofs.Tryz (prog)
section
variable{w0 w w' w1 w2 W0:World}{B N:Nat}{L L':Nat->Nat}{x:Xs}{l:List Int}
theorem td:vt prog 216 aB bA=true:=by kernel_rfl
abbrev Ia:=MB prog aB bA
theorem qF{s:aH}(g:aL s){y:Int}(I:y∈s.R .tr):0<=s.bM y/\s.bM y<=(s.R .be).length:=by
 obtain⟨p,hp,e⟩:=CL I;have:=g.lv p hp;rw[e]at this;have J:=Xm (p:=λe:Int=>decide (e<=(p:Int))) (l:=s.R .be);omega
theorem LK{s:aH}(g:aL s){y:Int}(O:dZ s.vars y): -1<=s.o_ y/\s.o_ y<=s.vars:=by
 have hb:=g.RK;have ht:=g.CQ;unfold aH.o_;split
 .rename_i h;simp only[ts,ZH,J5]at h;have J: ¬(y ∉ s.R .tr/\ -y ∉ s.R .tr):=λe=>h.2 ((jl g O).2 e);by_cases e:y∈s.R .tr
  .have:=qF g e;omega
  .have I: -y∈s.R .tr:=Wj λI=>J ⟨e,I⟩;have:=qF g I;rw[tf]at this;omega
 .omega
theorem NA{s:aH}(g:aL s){y:Int}(I:y∈s.R .tr):s.o_ y=s.bM y:=by
 have hv:=g.tv y I;unfold aH.o_;have h1:=(iX g.eM).2 hv;have J:s.val y≠0:=by have:=(g.v1 y hv).2 I;omega
 rw[v8 (by simp[h1,J])]
theorem Dj{s:aH}(g:aL s){y:Int}(I:y∈s.R .tr):s.fH y=s.nD y:=by
 have hv:=g.tv y I;unfold aH.fH;have h1:=(iX g.eM).2 hv;have J:s.val y≠0:=by have:=(g.v1 y hv).2 I;omega
 rw[v8 (by simp[h1,J])]
theorem SR.o_(h:SR w0 w B L N x)(g:aL x.s)(v:Int):Calls prog 191 #[cj x.pb,.i v] w λe w'=>e=.returned (.i (x.s.o_ v))/\ak w w':=by
 obtain⟨H,pm,_⟩:=h.pm id;exact KG pm g.wf v
theorem SR.fH(h:SR w0 w B L N x)(g:aL x.s)(v:Int):Calls prog 193 #[cj x.pb,.i v] w λe w'=>e=.returned (.i (x.s.fH v))/\ak w w':=by
 obtain⟨H,pm,_⟩:=h.pm id;exact Km pm g.wf v
theorem SR.OG(h:SR w0 w B L N x)(g:aL x.s)(i:Int):Calls prog 110 #[cj x.pb,.i i] w λe w'=>
 ∃ (q:sn) (d:Nat),e=.returned (.tuple #[.slice q (if x.s.is i then x.s.R (.a i.toNat) else []).length d,.bool (x.s.is i)])/\d_ aB w' q d (if x.s.is i then x.s.R (.a i.toNat) else [])/\ak w w'/\(∀b,aF q=some b->w.heap.size<=b):=by
 obtain⟨H,pm,_⟩:=h.pm id;exact Kb pm i λj=>by have:=g.al j;omega
theorem Gc(h:SR w0 W0 B L N x)(g:aL x.s)(hv:x.s.vars=N)(hN:N<=1000)(G:ak W0 w){n1 n3 n5 n8 n10 k3 k8:Nat}{s3 s8:Int->Bool}
 (h1:bO w n1 #[cj B]) (h5:bO w n5 #[.map (some n3)]) (ni:bO w n10 #[.map (some n8)]) (M3:Ia w n3 k3 s3) (M8:Ia w n8 k8 s8) (ne:n3≠n8/\n1≠n3/\n1≠n8/\n5≠n3/\n5≠n8/\n10≠n3/\n10≠n8) (f3:W0.heap.size<=n3) (f8:W0.heap.size<=n8)
 {p:sn} {n c:Nat} (vc:Vw sT w p l) (hn:n=l.length) (hl:l.length<=4096) (a8:∀y∈l,dZ N y) (b7:k3<=100000000) (bx:k8<=100000000) (hp:l≠[]->∀b,aF p=some b->b≠n3/\b≠n8):
 Calls prog 189 #[.slice p n c,.pointer (some ⟨n5,0,none⟩),.pointer (some ⟨n10,0,none⟩),.pointer (some ⟨n1,0,none⟩)] w λe w'=>e=.returned (.tuple #[])/\
  ∃O J,Ia w' n3 (k3+l.length) O/\Ia w' n8 (k8+l.length) J/\aE (λb=>b=n3\/b=n8) w w':=by
 refine ff.aj ?_;obtain⟨e1,e2,e3,e4,e5,e6,e7⟩:=ne;refine⟨λV u k=>∃ (t:Nat) (O J:Int->Bool),V=t/\t<=l.length/\k=l.length - t/\Ia u n3 (k3+t) O/\Ia u n8 (k8+t) J/\aE (λb=>b=n3\/b=n8) w u,⟨_,0,s3,s8,rfl,xc _,rfl,M3,M8,aE.refl _⟩,?_⟩;rintro V u k _⟨t,O,J,rfl,ht,rfl,m3,m8,mm⟩;refine ah (λr=>?_) (λr=>?_)
 .have r:t<l.length:=by simp at r;omega
  have vu:=vc.mK mm λa6 b hb e=>by have:=hp a6 b hb;rcases e with e|e<;>simp_all
  refine vu.ix 0 (by omega) hn (by omega) λa ha=>⟨_,ha,?_⟩
  rw[tn];obtain⟨y,hy⟩: ∃y,l.getD t 0=y:=⟨_,rfl⟩
  have ay:y∈l:=by rw[<- hy];simp[List.getD,r]
  have Z:=a8 y ay;have hb:=Z.bd (by omega);have b_:=Z.bo;rw[hy];have H5:bO u n5 _:=h5.keep mm λe=>by rcases e with e|e<;>omega
  have b6:bO u n10 _:=ni.keep mm λe=>by rcases e with e|e<;>omega
  have H1:bO u n1 _:=h1.keep mm λe=>by rcases e with e|e<;>omega
  refine⟨λv=>v=u.drew,rfl,_,fI (aP H5.drew rfl),pD.aj ⟨_,rfl,rfl,?_⟩⟩;rw[A6 hb.1 hb.2];have a_:Ia u.drew n3 (k3+t) O:=m3.grow (aE.refl u).drew;have a':Ia u.drew n8 (k8+t) J:=m8.grow (aE.refl u).drew;obtain⟨I,aw,az,Y⟩:=a_.put td (by unfold maxLen;omega) (a:=bo y) (BH (by omega) (by omega)) true;refine⟨I,aw,λv=>ak I.drew v,aE.refl _,?_⟩;have U:aE (λb=>b=n3\/b=n8) w I.drew:=((mm.grow (aE.refl u).drew).then Y λb _ (e:b=n3)=> .inl e).grow (aE.refl _).drew;have ap:bO I.drew n10 _:=(ni.keep U λe=>by rcases e with e|e<;>omega)
  have av:bO I.drew n1 _:=(h1.keep U λe=>by rcases e with e|e<;>omega)
  have GA:ak W0 I.drew:=G.then U λb hb e=>by rcases e with e|e<;>omega
  have SA:=h.grow GA;refine⟨_,λv gv=>aP (ap.grow gv) rfl,_,λv gv=>aP (av.grow gv) rfl,_,rfl,_,λv gv=>ae (SA.at.grow gv) rfl,(SA.o_ g y).mono ?_⟩;rintro e bu⟨rfl,Q⟩;have b4:=LK g (y:=y) (by rw[hv];exact Z);have a7:=(a'.Il Y (WL e1)).grow ((aE.refl I).drew.trans Q);obtain⟨aT,ax,ar,X⟩:=a7.put td (by unfold maxLen;omega) (a:=x.s.o_ y) (BH (by omega) (by omega)) true;refine⟨_,rfl,Q,aT,ax,_,?_,t+1,_,_,wN,by omega,rfl,(az.grow ((aE.refl I).drew.trans Q)).Il X e1,ar,(U.grow Q).then X λb _ (e:b=n8)=> .inr e⟩;omega
 .have r:t=l.length:=by simp at r;omega
  subst r;exact⟨rfl,O,J,m3,m8,mm⟩
structure Pa where
 lit:Int
 bM:Int
 sl:Sl
 rs:List Int
def wv:Pa:=⟨0,0,Sl.nil,[]⟩
def Kl(a:Pa):List Value:= [.i a.lit,.i a.bM,a.sl.v]
theorem Bv:Jk 3 Kl:=⟨λ_=>rfl,by omega,λx v hv=>by
 simp only[Kl,V',W5,W8]at hv;rcases hv with rfl|rfl|rfl<;>rfl⟩
def SK(l:List Pa)(k:Nat)(m:List Pa):Prop:=m.length=l.length/\∀i,i<l.length->m.getD i wv=if i<k\/l.length<=i+k then l.getD (l.length - 1 - i) wv else l.getD i wv
theorem tH{b:List Pa}{i j:Nat}{x:Pa}(hi:i<b.length):(b.set i x).getD j wv=if j=i then x else b.getD j wv:=by
 simp only[vx,Xe];by_cases h:j=i
 .subst h;simp[hi]
 .rw [r8 (λe=>h e.symm),r8 h]
theorem HV{p:sn}{n c:Nat}{l:List Pa}(o:Row 3 Kl cD w p c l)(hn:n=l.length)(hl:l.length<=1000000):Calls prog 194 #[.slice p n c] w λe w'=>e=.returned (.tuple #[])/\Row 3 Kl cD w' p c l.reverse/\aE (λb=>aF p=some b) w w':=by
 refine bm.aj ?_;subst hn;refine⟨λI J u k=>∃ (t:Nat) (m:List Pa),I=t/\J=(l.length:Int) - 1 - t/\t+t<=l.length+1/\k=l.length - t/\SK l t m/\Row 3 Kl cD u p c m/\aE (λb=>aF p=some b) w u,
  ⟨_,0,l,rfl,by rw[ao (by omega) (by omega)];omega,by omega,rfl,⟨rfl,λi hi=>by rw[r8 (by omega)]⟩,o,aE.refl _⟩,?_⟩
 rintro I J u k _⟨t,m,rfl,rfl,ht,rfl,⟨O,Q⟩,R,M⟩;refine ah (λr=>?_) (λr=>?_)
 .have r:(t:Int)< (l.length:Int) - 1 - t:=by simpa using r
  obtain⟨j,hj⟩: ∃j:Nat,(l.length:Int) - 1 - t=j:=⟨l.length - 1 - t,by omega⟩
  rw[hj];have Rd:=R.drew;have v:=Rd.vr Bv;refine v.ix wv (by omega) O.symm (by omega) λa ha=>⟨_,_,_,_,_,ha,v.ix wv (by omega) O.symm (by omega) λa2 V=>⟨_,_,_,_,_,V,?_⟩⟩
  refine Rd.st Bv (m.getD j wv) rfl rfl (by omega) O.symm (by omega) λap Z Y=>?_;refine Z.st Bv (m.getD t wv) rfl rfl (by omega) (by rw[Xv];exact O.symm) (by omega) λar U X=>?_;refine⟨_,?_,t+1,_,wN,?_,by omega,rfl,⟨?_,λi hi=>?_⟩,U,((M.grow (aE.refl u).drew).trans Y).trans X⟩
  .omega
  .rw [ao (by omega) (by omega)];omega
  .simp [O]
  .rw [tn,tn,tH (by rw[Xv];omega),tH (by omega)];have a1:=Q j (by omega);have a2:=Q t (by omega);rw[r8 (by omega)]at a1 a2;by_cases e:i=j
   .subst e;rw[v8 rfl,a2,v8 (by omega)];congr 1;omega
   .rw [r8 e];by_cases e2:i=t
    .subst e2;rw[v8 rfl,a1,v8 (by omega)];congr 1;omega
    .rw [r8 e2,Q i hi];by_cases e3:i<t\/l.length<=i+t
     .rw [v8 e3,v8 (by omega)]
     .rw [r8 e3,r8 (by omega)]
 .have r: ¬(t:Int)< (l.length:Int) - 1 - t:=by simpa using r
  refine⟨rfl,?_,M⟩;have:m=l.reverse:=by
   refine XC (by simp[O]) λi h1 h2=>?_;have:=Q i (by omega);rw[List.getElem_reverse];have e1:m.getD i wv=m[i]:=by simp[List.getD,h1]
   rw[<- e1,this];have hi:i<l.length:=by omega
   by_cases e:i<t\/l.length<=i+t
   .rw [v8 e];simp[List.getD,show l.length - 1 - i<l.length by omega]
   .rw [r8 e];have:l.length - 1 - i=i:=by omega
    simp[List.getD,hi,this]
  rw[<- this];exact R
end
section
variable{w0 w w' w1 w2 W0 w25 u u':World}{B N n1 n3 n5 n8 n10 n13 n18:Nat}{L L':Nat->Nat}{x:Xs}{l:List Int}{s:aH}{df:List (Int × Int)}{q:Sl}{pt:List Pa}
theorem UL{C:Nat}{T S:Nat->Prop}(m:aE S u u')(V:∀r,S r->r<C\/∀o,u.heap[r]? =some o->o.isCells=true)(U:∀k,T k->¬S k)(hl:∀k,T k->k<u.heap.size):KB C T u u':=by
 refine⟨⟨m.size,λk o I J Q=>?_⟩,λk I=>m.block k (hl k I) (U k I)⟩;have O:k<u.heap.size:=(Xb.1 J).1;by_cases e:S k
 .rcases V k e with h|h
  .omega
  .rw [h o J]at Q;cases Q
 .exact (m.block k O e).trans J
structure UN(s:aH)(a:Pa):Prop where
 mem:a.lit∈s.R .tr
 bM:a.bM=s.bM a.lit
 rs:a.rs= []\/∃i,s.aN i/\a.rs=s.R (.a i)
structure TL(w25 u:World)(q:Sl)(a:Pa):Prop where
 n:a.sl.n=a.rs.length
 o:∃d,d_ aB u a.sl.p d a.rs
 f:∀b,aF a.sl.p=some b->w25.heap.size<=b/\aF q.p≠some b
structure CN(w w25:World)(n1 n3 n5 n8 n10 n13 n18:Nat):Prop where
 a:w.heap.size<=n1
 b:n1<n3
 c:n3<n5
 d:n5<n8
 e:n8<n10
 f:n10<n13
 g:n13<n18
 h:n18<w25.heap.size
structure Ie(w w25:World)(B n1 n3 n5 n8 n10 n13 n18:Nat)(s:aH)(q:Sl)(pt:List Pa)(df:List (Int × Int))(u:World):Prop where
 g:ak w u
 h1:bO u n1 #[cj B]
 h5:bO u n5 #[.map (some n3)]
 ni:bO u n10 #[.map (some n8)]
 qW:bO u n13 #[.func (.func 189) #[] #[.pointer (some ⟨n5,0,none⟩),.pointer (some ⟨n10,0,none⟩),.pointer (some ⟨n1,0,none⟩)]]
 m3:∃k f,k<=4096+4096*df.length/\Ia u n3 k f
 m8:∃k f,k<=4096+4096*df.length/\Ia u n8 k f
 tz:bO u n18 #[q.v]
 qn:q.n=pt.length
 r:Row 3 Kl cD u q.p q.c pt
 rf:∀b,aF q.p=some b->w25.heap.size<=b
 sub:(pt.map (·.lit)).Sublist (df.map (·.2))
 pa:∀a∈pt,UN s a
 pm:∀a∈pt,TL w25 u q a
theorem EM{p:sn}{d:Nat}(o:d_ aB u p d l):∀b,aF p=some b->∀I,u.heap[b]? =some I->I.isCells=true:=by
 intro b hb I J;rcases o.un with⟨rfl,_⟩| ⟨g,cur,rfl,O,_⟩
 .simp [aF]at hb
 .simp [aF]at hb;subst hb;rw[O]at J;cases J;rfl
theorem xn{p:sn}{d:Nat}(o:Row 3 Kl cD u p d pt):∀b,aF p=some b->∀I,u.heap[b]? =some I->I.isCells=true:=by
 intro b hb I J;rcases o.un with⟨rfl,_⟩| ⟨g,cur,rfl,O,_⟩
 .simp [aF]at hb
 .simp [aF]at hb;subst hb;rw[O]at J;cases J;rfl
theorem Ie.keep(h:Ie w w25 B n1 n3 n5 n8 n10 n13 n18 s q pt df u){S:Nat->Prop}(m:aE S u u')(cn:CN w w25 n1 n3 n5 n8 n10 n13 n18)(I:∀r,S r->w25.heap.size<=r)(hr:∀b,aF q.p=some b->¬S b)(hp:∀a∈pt,∀b,aF a.sl.p=some b->¬S b):Ie w w25 B n1 n3 n5 n8 n10 n13 n18 s q pt df u':=by
 obtain⟨a,b,c,d,e,f,g,V⟩:=cn;have no:∀k,k<w25.heap.size->¬S k:=λk X hs=>by have:=I k hs;omega
 obtain⟨J,f3,O,m3⟩:=h.m3;obtain⟨Q,f8,U,m8⟩:=h.m8;exact⟨h.g.then m λr hr hs=>by have:=I r hs;omega,h.h1.keep m (no _ (by omega)),h.h5.keep m (no _ (by omega)),h.ni.keep m (no _ (by omega)),h.qW.keep m (no _ (by omega)),⟨J,f3,O,m3.keep m (no _ (by omega))⟩,⟨Q,f8,U,m8.keep m (no _ (by omega))⟩,h.tz.keep m (no _ (by omega)),h.qn,h.r.keep m hr,h.rf,h.sub,h.pa,
  λa ha=>⟨(h.pm a ha).n,by obtain⟨d,o⟩:=(h.pm a ha).o;exact⟨d,o.keep m (hp a ha)⟩,(h.pm a ha).f⟩⟩
theorem Ie.grow(h:Ie w w25 B n1 n3 n5 n8 n10 n13 n18 s q pt df u)(m:ak u u')(cn:CN w w25 n1 n3 n5 n8 n10 n13 n18):Ie w w25 B n1 n3 n5 n8 n10 n13 n18 s q pt df u':=
 h.keep m cn (λ_ e=>e.elim) (λ_ _ e=>e) λ_ _ _ _ e=>e
theorem Ie.next(h:Ie w w25 B n1 n3 n5 n8 n10 n13 n18 s q pt df u)(y:Int × Int):Ie w w25 B n1 n3 n5 n8 n10 n13 n18 s q pt (df++ [y]) u:=by
 obtain⟨I,f3,Q,m3⟩:=h.m3;obtain⟨J,f8,O,m8⟩:=h.m8;exact⟨h.g,h.h1,h.h5,h.ni,h.qW,⟨I,f3,by simp;omega,m3⟩,⟨J,f8,by simp;omega,m8⟩,h.tz,h.qn,h.r,h.rf,h.sub.trans (by rw[GD];exact List.sublist_append_left _ _),h.pa,h.pm⟩
theorem Ke:rM prog 197 cD 3 40=true:=by kernel_rfl
theorem UZ{a:Pa}{b:Nat}(h:bO u b #[.i a.lit,.i a.bM,a.sl.v]):Vr 3 Kl u (some ⟨b,0,none⟩) [a]:=by
 intro j I;have:j=0:=by simpa using I
 subst this;exact⟨_,rfl,ae h rfl,ae h rfl,ae h rfl,trivial⟩
theorem Cr{i:Int}{a:Pa}(h:Ie w w25 B n1 n3 n5 n8 n10 n13 n18 s q pt (df++ [(i,a.lit)]) u)(hs:(pt.map (·.lit)).Sublist (df.map (·.2)))(cn:CN w w25 n1 n3 n5 n8 n10 n13 n18)(b_:w25.heap.size<=u.heap.size)(hl:pt.length<=1000000){a6:Nat}(bi:bO u a6 #[.i a.lit,.i a.bM,a.sl.v])(bg:UN s a)(hm:TL w25 u q a){K:World->Prop}
 (hk:∀u' q',Ie w w25 B n1 n3 n5 n8 n10 n13 n18 s q' (pt++ [a]) (df++ [(i,a.lit)]) u'->aE (λb=>b=n18\/aF q.p=some b) u u'->K u'):
 ∃ag Z ac,u.cell? (qw n18)=some (.slice ag Z ac)/\
  ∃az aT V ar an,aM u (qw a6) 0 [.i az,.i aT,.slice V ar an]/\
  ∀av Q,jz (.cells #[.i az,.i aT,.slice V ar an] 221) u av Q->
  ∃aw X ap Y,(Builtin.append_ #[197,197] 197 #[.slice ag Z ac,.slice (some (qw av)) 1 1]).run prog Q=.ok (.slice X ap Y) aw/\
  ∃J,bD (qw n18) 0 [.slice X ap Y] aw J/\K J:=by
 refine⟨_,_,_,aP h.tz rfl,_,_,_,_,_,gG bi,λav Q O=>?_⟩;have a7:=h.grow O.mod cn;have cT:=O.num;refine Row.nu Bv Ke a7.r (UZ (a:=a) O.has) h.qn rfl (by simp;omega) λaw p' c' bk a_ bb b6=>?_;obtain⟨ca,cb,cc,cd,ce,cf,cg,bu⟩:=cn;have nb:∀k,k<w25.heap.size->¬aF q.p=some k:=λk hk e=>by have:=h.rf k e;omega
 refine aX (a7.tz.keep a_ (nb _ bu)) rfl rfl λJ bn a8=>?_;have b4:=O.mod.size;have pf:∀b,aF p'=some b->w25.heap.size<=b:=λb hb=>by
  rcases bb with rfl|rfl
  .exact h.rf b hb
  .have:Q.heap.size=b:=by simpa[aF]using hb
   omega
 have U:aE (λb=>b=n18\/aF q.p=some b) u J:=((aE.then (S:=λb=>b=n18\/aF q.p=some b) (O.mod.mono λ_ _ e=>e.elim) a_ λb _ e=> .inr e)).then a8 λb _ (e:b=n18)=> .inl e;have no:∀k,k≠n18->k<w25.heap.size->¬(k=n18\/aF q.p=some k):=λk h1 h2 e=>by
  rcases e with e|e
  .exact h1 e
  .exact nb k h2 e
 obtain⟨k3,f3,b3,M3⟩:=h.m3;obtain⟨k8,f8,b8,M8⟩:=h.m8;have ax:∀a':Pa,TL w25 u q a'->TL w25 J ⟨p',(pt++ [a]).length,c'⟩ a':=λa' ha=>by
  obtain⟨d,o⟩:=ha.o;refine⟨ha.n,⟨d,o.keep U λb hb e=>?_⟩,λb hb=>⟨(ha.f b hb).1,λe=>?_⟩⟩
  .have:=ha.f b hb;rcases e with e|e
   .omega
   .exact this.2 e
  .have b5:=o.lt b hb;rcases bb with e'|e'
   .have e:aF p'=some b:=e;rw[e']at e;exact(ha.f b hb).2 e
   .have e:aF p'=some b:=e;rw[e']at e;have:Q.heap.size=b:=by simpa[aF]using e
    omega
 refine hk J ⟨p',(pt++ [a]).length,c'⟩ ⟨h.g.then U λr hr e=>?_,h.h1.keep U (no _ (by omega) (by omega)),h.h5.keep U (no _ (by omega) (by omega)),h.ni.keep U (no _ (by omega) (by omega)),h.qW.keep U (no _ (by omega) (by omega)),⟨k3,f3,b3,M3.keep U (no _ (by omega) (by omega))⟩,⟨k8,f8,b8,M8.keep U (no _ (by omega) (by omega))⟩,bn,rfl,bk.keep a8 λb hb (e:b=n18)=>?_,pf,?_,λa' I=>?_,λa' I=>?_⟩ U
 .rcases e with e|e
  .omega
  .have:=h.rf r e;have:=h.g.size;exact absurd e (nb r (by omega))
 .have:=pf b hb;omega
 .rw [GD,GD];exact hs.append (YF _)
 .rcases y4.1 I with I|I
  .exact h.pa a' I
  .rw [xv]at I;subst I;exact bg
 .rcases y4.1 I with I|I
  .exact ax a' (h.pm a' I)
  .rw [xv]at I;subst I;exact ax _ hm
end
section
variable{w0 w w' w1 w2 W0 w25 u u':World}{B N n1 n3 n5 n8 n10 n13 n18:Nat}{L L':Nat->Nat}{x:Xs}{l:List Int}{s:aH}{df:List (Int × Int)}{q:Sl}{pt:List Pa}
structure RP(lv:Nat->Int)(t:Nat)(rl:List Int)(ix:Nat->Nat):Prop where
 up:∀a b,a<b->b<rl.length->rl.getD a 0<rl.getD b 0
 z:rl≠[]->rl.getD 0 0=0
 ix:∀j,j<t->ix j<rl.length/\rl.getD (ix j) 0=lv j
 e0:t=0->rl= []
 ne:0<t->rl≠[]/\rl.getD (rl.length - 1) 0=lv (t - 1)
def yw(rl:List Int)(v:Int):List Int:=if rl= [] then (if 0<v then [0,v] else [v]) else if rl.getD (rl.length - 1) 0≠v then rl++ [v] else rl
theorem Nl{lv:Nat->Int}{t:Nat}{rl:List Int}{ix:Nat->Nat}(h:RP lv t rl ix)(h0:0<=lv t)(hm:0<t->lv (t - 1)<=lv t):
 RP lv (t+1) (yw rl (lv t)) (λj=>if j=t then (yw rl (lv t)).length - 1 else ix j):=by
 have key:∀I:List Int,(∃e,I=rl++e)->(∀a b,a<b->b<I.length->I.getD a 0<I.getD b 0)->(I.getD 0 0=0)->I≠[]->I.getD (I.length - 1) 0=lv t->
  RP lv (t+1) I (λj=>if j=t then I.length - 1 else ix j):=by
  rintro I⟨e,rfl⟩ h1 h2 h3 Z;have hl:0< (rl++e).length:=Wx.2 h3;refine⟨h1,λ_=>h2,λj hj=>?_,λe=>by omega,λ_=>⟨h3,by simpa using Z⟩⟩;by_cases Y:j=t
  .subst Y;show (if j=j then _ else _)<_/\_;rw[v8 rfl];exact⟨by omega,Z⟩
  .show (if j=t then _ else _)<_/\_;rw[r8 Y];obtain⟨a,b⟩:=h.ix j (by omega);refine⟨by rw[I'];omega,?_⟩;rw[<- b];simp only[vx];rw[Wd a]
 unfold yw;by_cases e:rl= []
 .subst e;rw[v8 rfl];by_cases hv:0<lv t
  .rw [v8 hv];refine key _ ⟨_,rfl⟩ (λa b J hb=>?_) rfl (by simp) rfl;have hb:b<2:=hb;have:a=0/\b=1:=by omega
   obtain⟨rfl,rfl⟩:=this;exact hv
  .rw [r8 hv];refine key _ ⟨_,rfl⟩ (λa b J hb=>?_) ?_ (by simp) rfl
   .have hb:b<1:=hb;omega
   .show lv t=0;omega
 .rw [r8 e];have ht:0<t:=by
   rcases Wt t with O|O
   .exact absurd (h.e0 O) e
   .exact O
  obtain⟨_,V⟩:=h.ne ht;have hlen:0<rl.length:=Wx.2 e;by_cases Q:rl.getD (rl.length - 1) 0≠lv t
  .rw [v8 Q];have U:∀a,a<rl.length->(rl++ [lv t]).getD a 0=rl.getD a 0:=λa ha=>by simp only[vx];rw[Wd ha]
   have X:(rl++ [lv t]).getD rl.length 0=lv t:=by simp[List.getD]
   refine key _ ⟨_,rfl⟩ (λa b J hb=>?_) (by rw[U 0 hlen];exact h.z e) (by simp) (by rw[I'];exact X);rw[I',WG]at hb;by_cases O:b=rl.length
   .subst O;rw[X,U a J];have hm:=hm ht;by_cases e3:a=rl.length - 1
    .rw [e3];omega
    .have:=h.up a (rl.length - 1) (by omega) (by omega);omega
   .rw [U a (by omega),U b (by omega)];exact h.up a b J (by omega)
  .rw [r8 Q];have Q:rl.getD (rl.length - 1) 0=lv t:=by simpa using Q
   exact key _ ⟨[],by simp⟩ h.up (h.z e) e Q
structure ud(s:aH)(tr:List As)(rl:List Int):Prop where
 len:tr.length<=s.vars
 mem:∀i,i<tr.length->(aZ tr i).lit∈s.R .tr
 rs:∀i,i<tr.length->(aZ tr i).rs= []\/∃k,s.aN k/\(aZ tr i).rs=s.R (.a k)
 bM:∀i,i<tr.length->0<=(aZ tr i).bM/\(aZ tr i).bM<rl.length/\rl.getD (aZ tr i).bM.toNat 0=s.bM (aZ tr i).lit
 up:∀a b,a<b->b<rl.length->rl.getD a 0<rl.getD b 0
 z:rl≠[]->rl.getD 0 0=0
theorem M4(g:aL s){I:List Int}(h:I.Sublist (s.R .tr)):∀a b,a<=b->b<I.length->s.bM (I.getD a 0)<=s.bM (I.getD b 0):=by
 have key:(s.R .tr).Pairwise λy z=>s.bM y<=s.bM z:=by
  rw[Wy];intro i j hi Q V;have h1:=g.lv i hi;have O:=g.lv j Q;have U:(s.R .tr).getD i 0=(s.R .tr)[i]:=by simp[List.getD,hi]
  have Y:(s.R .tr).getD j 0=(s.R .tr)[j]:=by simp[List.getD,Q]
  rw[U]at h1;rw[Y]at O;rw[h1,O];have:=YD (p:=λe:Int=>decide (e<=(i:Int))) (q:=λe:Int=>decide (e<=(j:Int))) (l:=s.R .be) λe _ he=>by simp at he ⊢;omega
  omega
 have J:=key.sublist h;rw[Wy]at J;intro a b X hb;by_cases e:a=b
 .rw [e];exact Ww _
 .have:=J a b (by omega) hb (by omega);simpa[List.getD,hb,show a<I.length by omega]using this
def TG(pt:List Pa)(j:Nat):Int:=(pt.getD j wv).bM
structure VZ(pt m:List Pa)(t:Nat)(ix:Nat->Nat):Prop where
 len:m.length=pt.length
 vU:∀j,t<=j->m.getD j wv=pt.getD j wv
 new:∀j,j<t->m.getD j wv= {pt.getD j wv with bM:=ix j}
theorem KV(g:aL s)(cn:CN w w25 n1 n3 n5 n8 n10 n13 n18)(h:Ie w w25 B n1 n3 n5 n8 n10 n13 n18 s q pt df u)(hV:w25.heap.size<=u.heap.size)(hN:s.vars<=1000)(en:(pt.map (·.lit)).Sublist (s.R .tr).reverse){d:Nat}(hd:u.heap[d]? =some (.deferred (some [])))(gT:w25.heap.size<=d){K:Value->World->Prop}
 (hk:∀u' (tp:sn) (tc:Nat) (rp:sn) (rc:Nat) (tr:List As) (rl:List Int),ud s tr rl->Le.TV u' tp tr->Vw sT u' rp rl->ak w u'->tr.length<=tc->K (.tuple #[.slice tp tr.length tc,.slice rp rl.length rc]) u'):
 ∃es eL eK,u.cell? (qw n18)=some (.slice es eL eK)/\
  Calls prog 194 #[.slice es eL eK] u λe av=>e=.returned (.tuple #[])/\
  ∃ey c0 fA,av.cell? (qw n18)=some (.slice ey c0 fA)/\
  ∃e5:sn->Nat->Nat->Int->World->Nat->Prop,(∃d8,e5 none 0 0 0 av d8)/\
  ∀ (J:sn) (I:Nat) (O:Nat) (cT:Int) (ay:World) (d8:Nat) (_:Fr),e5 J I O cT ay d8->
  aD (decide (cT< (c0:Int)))
   (aV ey c0 cT 3 λf0=>
     ∃eH ek b9 dc dT,aM ay f0 0 [.i eH,.i ek,.slice b9 dc dT]/\
     ∀n105 dk,jz (.cells #[.i 0,.i 0,.slice none 0 0] 221) ay n105 dk->
     ∃Q,bD (qw n105) 0 [.i eH,.i ek,.slice b9 dc dT] dk Q/\
     ∃a8:sn->Nat->Nat->World->Prop,(∃b_:Bool->World->Prop,(aD ((I:Int)==(0:Int))
     (b_ true Q.drew)
     (aV J I (IntKind.i64.wrap ((I:Int) - (1:Int))) 1 λfL=>
     ∃eu,Q.drew.cell? fL=some (.i eu)/\
     ∃el,Q.drew.cell? ((qw n105).add 1)=some (.i el)/\
     b_ (eu !=el) Q.drew))/\
     ∀ (eb:Bool) (Z:World) (_:Fr),b_ eb Z->
     aD eb
     (aD ((I:Int)==(0:Int))
       (∃eF,Z.cell? ((qw n105).add 1)=some (.i eF)/\
       aD (decide (eF> (0:Int)))
       (∀n116 a_,jz (.cells #[.i 0] 3) Z n116 a_->
         ∃aw ap an ag,(Builtin.append_ #[25,25] 25 #[.slice J I O,.slice (some (qw n116)) 1 1]).run prog a_=.ok (.slice ap an ag) aw/\
         ∃eg,aw.cell? ((qw n105).add 1)=some (.i eg)/\
         ∀n121 bY,jz (.cells #[.i eg] 3) aw n121 bY->
         ∃eN dd b' dp,(Builtin.append_ #[25,25] 25 #[.slice ap an ag,.slice (some (qw n121)) 1 1]).run prog bY=.ok (.slice dd b' dp) eN/\
         a8 dd b' dp eN)
       (∃et,Z.cell? ((qw n105).add 1)=some (.i et)/\
         ∀n126 bx,jz (.cells #[.i et] 3) Z n126 bx->
         ∃eA cr c7 dq,(Builtin.append_ #[25,25] 25 #[.slice J I O,.slice (some (qw n126)) 1 1]).run prog bx=.ok (.slice cr c7 dq) eA/\
         a8 cr c7 dq eA))
       (∃er,Z.cell? ((qw n105).add 1)=some (.i er)/\
       ∀n131 b3,jz (.cells #[.i er] 3) Z n131 b3->
       ∃ep du b7 c1,(Builtin.append_ #[25,25] 25 #[.slice J I O,.slice (some (qw n131)) 1 1]).run prog b3=.ok (.slice du b7 c1) ep/\
       a8 du b7 c1 ep))
     (a8 J I O Z))/\
     ∀ (Y:sn) (U:Nat) (aa:Nat) (dA:World) (_:Fr),a8 Y U aa dA->
     ∃cm b8 e6,dA.cell? (qw n18)=some (.slice cm b8 e6)/\
     aV cm b8 cT 3 λa138=>
     ∃cp,bD (a138.add 1) 0 [.i (IntKind.i64.wrap ((U:Int) - (1:Int)))] dA cp/\
     ∃fs,fs<d8/\e5 Y U aa (IntKind.i64.wrap (cT+ (1:Int))) cp fs)
   (∃co c2 dh,ay.cell? (qw n18)=some (.slice co c2 dh)/\
     ay.heap[d]? =some (.deferred (some []))/\∀az,Go.Fw.aE (·=d) ay az->K (.tuple #[.slice co c2 dh,.slice J I O]) az):=by
 have eT:=en.length_le;rw[We,List.length_reverse]at eT;have hz:=g.CQ;have gm:d<u.heap.size:=(Xb.1 hd).1;have e2:aF q.p≠some d:=λe=>by have:=xn h.r d e _ hd;cases this
 obtain⟨ca,cb,cc,cd,ce,cf,cg,hI⟩:=cn;refine⟨_,_,_,aP h.tz rfl,(HV h.r h.qn (by omega)).mono ?_⟩;rintro e av⟨rfl,d9,b4⟩;obtain⟨X,d'⟩: ∃X,X=pt.reverse:=⟨_,rfl⟩
 rw[<- d']at d9;have gu:X.length=pt.length:=by rw[d'];simp
 have dB: ¬aF q.p=some n18:=λe=>by have:=h.rf _ e;omega
 have fy:(X.map (·.lit)).Sublist (s.R .tr):=by
  have:=en.reverse;rw[List.reverse_reverse,<- List.map_reverse]at this;rw[d'];exact this
 have aT:∀j,j<X.length->X.getD j wv∈pt:=λj hj=>by
  have:X.getD j wv∈X:=by simp[List.getD,hj]
  rw[d']at this ⊢;exact Zu.1 this
 have e':=M4 g fy;have ed:∀j,j<X.length->(X.map (·.lit)).getD j 0=(X.getD j wv).lit:=λj hj=>by simp[List.getD,hj]
 have bn:∀j,j<X.length->TG X j=s.bM (X.getD j wv).lit:=λj hj=> (h.pa _ (aT j hj)).bM;have gs:∀j,0<j->j<X.length->TG X (j - 1)<=TG X j:=λj h0 hj=>by
  rw[bn j hj,bn (j - 1) (by omega),<- ed j hj,<- ed (j - 1) (by omega)];exact e' _ _ (by omega) (by simpa using hj)
 have gf:∀j,j<X.length->0<=TG X j:=λj hj=>by
  rw[bn j hj];exact(qF g (h.pa _ (aT j hj)).mem).1
 refine⟨rfl,_,_,_,aP (h.tz.keep b4 dB) rfl,?_⟩;have hQ:=b4.size;refine⟨λP Nn C V v z=>∃ (t:Nat) (rl:List Int) (ix:Nat->Nat) (m:List Pa),V=t/\t<=X.length/\z=X.length - t/\Nn=rl.length/\rl.length<=t+1/\RP (TG X) t rl ix/\VZ X m t ix/\d_ aB v P C rl/\(∀b,aF P=some b->av.heap.size<=b)/\Row 3 Kl cD v q.p q.c m/\aE (λb=>aF q.p=some b) av v,
  ⟨_,0,[],λ_=>0,X,rfl,xc _,rfl,rfl,by simp,⟨λa b _ hb=>by simp at hb,λe=>absurd rfl e,λj hj=>by omega,λ_=>rfl,λe=>by omega⟩,⟨rfl,λ_ _=>rfl,λj hj=>by omega⟩,Ow.nil _ _ _,λb hb=>by simp[aF]at hb,d9,aE.refl _⟩,?_⟩
 rintro P Nn C V v z _⟨t,rl,ix,m,rfl,ht,rfl,rfl,g0,d7,hT,hO,bk,hR,hM⟩;have fh:bO v n18 #[q.v]:=(h.tz.keep b4 dB).keep hM dB;have sv:=hM.size;have hJ:q.n=X.length:=by rw[h.qn,gu]
 refine ah (λr=>?_) (λr=>?_)
 .have r:t<X.length:=by simp at r;omega
  have e7:=hT.len;refine(hR.vr Bv).ix wv (by omega) (by omega) (by omega) λa ha=>⟨_,_,_,_,_,ha,?_⟩
  intro n105 dk c4;rw[tn,hT.vU t (vy _)];obtain⟨A,hA⟩: ∃A,X.getD t wv=A:=⟨_,rfl⟩
  rw[hA];have eR:TG X t=A.bM:=by unfold TG;rw[hA]
  have hw:=c4.num;refine aX c4.has rfl rfl λQ fo fl=>?_;have a7:ak v Q:=c4.mod.cE fl (by omega);have gS:=a7.size;have ac:bO Q.drew n105 #[.i A.lit,.i A.bM,A.sl.v]:=fo;have a':d_ aB Q.drew P C rl:=hO.grow (a7.trans (aE.refl Q).drew);refine⟨λP' N' C' z'=>∃ar,ar=yw rl A.bM/\N'=ar.length/\ar.length<=t+2/\d_ aB z' P' C' ar/\(∀b,aF P'=some b->av.heap.size<=b)/\Row 3 Kl cD z' q.p q.c m/\aE (λb=>aF P=some b) Q.drew z',⟨λbb z'=>z'=Q.drew/\(bb=true↔rl= []\/rl.getD (rl.length - 1) 0≠A.bM),?_,?_⟩,?_⟩
  .refine ah (λr2=>⟨rfl,?_⟩) (λr2=>?_)
   .have:rl= []:=Wa (by simpa using r2);simp[this]
   .have d4:rl≠[]:=λe=>by rw[e]at r2;simp at r2
    have g4:0<rl.length:=Wx.2 d4;have ew:IntKind.i64.wrap ((rl.length:Int) - 1)=((rl.length - 1:Nat):Int):=by rw[ao (by omega) (by omega)];omega
    rw[ew];refine a'.ix 0 (by omega) rfl (by omega) λa2 gy=>⟨_,gy,_,ae ac rfl,rfl,?_⟩
    rw[tn];simp[d4]
  .rintro bb z' _ ⟨rfl,fk⟩;have nu:∀ {z2:World} {P2:sn} {C2:Nat} {rl2:List Int} {nb:Nat} (y:Int),d_ aB z2 P2 C2 rl2->rl2.length<=1001->bO z2 nb #[.i y]->av.heap.size<=z2.heap.size->(∀b,aF P2=some b->av.heap.size<=b)->Row 3 Kl cD z2 q.p q.c m->∀ {KK:World->sn->Nat->Nat->Prop},
    (∀z3 P3 C3,d_ aB z3 P3 C3 (rl2++ [y])->(∀b,aF P3=some b->av.heap.size<=b)->Row 3 Kl cD z3 q.p q.c m->aE (λb=>aF P2=some b) z2 z3->(P3=P2\/P3=some ⟨z2.heap.size,0,none⟩)->KK z3 P3 (rl2.length+1) C3)->
    ∃aw ap an ag,(Builtin.append_ #[25,25] 25 #[.slice P2 rl2.length C2,.slice (some (qw nb)) 1 1]).run prog z2=.ok (.slice ap an ag) aw/\KK aw ap an ag:=by
    intro z2 P2 C2 rl2 nb y o2 h6 gk hS fq gv KK kk;refine Ow.jS yK o2 y gk rfl rfl eI (by omega) λz3 P3 C3 o3 m3 b5 hy=>kk z3 P3 C3 o3 (λb hb=>?_) (gv.keep m3 λb hb e=>?_) m3 b5
    .rcases b5 with rfl|rfl
     .exact fq b hb
     .have:z2.heap.size=b:=by simpa[aF]using hb
      omega
    .have:=fq b e;have:=d9.lt b hb;omega
   have d6:Row 3 Kl cD Q.drew q.p q.c m:=hR.grow (a7.trans (aE.refl Q).drew);have sd:Q.drew.heap.size=Q.heap.size:=rfl;refine ah (λr3=>?_) (λr3=>?_)
   .have r3:=fk.1 r3;refine ah (λr4=>?_) (λr4=>?_)
    .have e0:rl= []:=Wa (by simpa using r4);subst e0;refine⟨_,ae ac rfl,ah (λr5=>?_) (λr5=>?_)⟩
     .have r5:0<A.bM:=by simpa using r5
      intro n116 a_ ax;have ho:=ax.mod.size;refine nu (z2:=a_) (rl2:= []) 0 (a'.grow ax.mod) (by simp) ax.has (by omega) bk (d6.grow ax.mod) λz3 P3 C3 o3 f3 r3 m3 b5=>?_;have e9: ¬aF P=some n105:=λe=>by have:=hO.lt n105 e;omega
      have H3:bO z3 n105 _:=(ac.grow ax.mod).keep m3 e9;refine⟨_,ae H3 rfl,λn121 bY bg=>?_⟩;have g7:=bg.mod.size;have s3:=m3.size;refine nu (z2:=bY) (rl2:= []++ [0]) A.bM (o3.grow bg.mod) (by simp) bg.has (by omega) f3 (r3.grow bg.mod) λz4 P4 C4 o4 f4 r4 m4 hY=>?_;refine⟨[0,A.bM],by unfold yw;rw[v8 rfl,v8 r5],rfl,by simp,o4,f4,r4,?_⟩;refine((aE.then (S:=λb=>aF P=some b) (ax.mod.mono λ_ _ e=>e.elim) m3 λb _ e=>e).grow bg.mod).then m4 λb hb e=>?_;rcases b5 with e3|e3
      .rw [e3]at e;exact e
      .rw [e3]at e;have:a_.heap.size=b:=by simpa[aF]using e
       omega
     .have r5: ¬0<A.bM:=by simpa using r5
      refine⟨_,ae ac rfl,λn126 bx bf=>?_⟩;have g8:=bf.mod.size;refine nu (z2:=bx) (rl2:= []) A.bM (a'.grow bf.mod) (by simp) bf.has (by omega) bk (d6.grow bf.mod) λz3 P3 C3 o3 f3 r3 m3 b5=>?_;exact⟨[A.bM],by unfold yw;rw[v8 rfl,r8 r5],rfl,by simp,o3,f3,r3,aE.then (S:=λb=>aF P=some b) (bf.mod.mono λ_ _ e=>e.elim) m3 λb _ e=>e⟩
    .have d4:rl≠[]:=λe=>by rw[e]at r4;simp at r4
     refine⟨_,ae ac rfl,λn131 b3 a6=>?_⟩;have g':=a6.mod.size;refine nu (z2:=b3) (rl2:=rl) A.bM (a'.grow a6.mod) (by omega) a6.has (by omega) bk (d6.grow a6.mod) λz3 P3 C3 o3 f3 gp m3 b5=>?_;refine⟨rl++ [A.bM],?_,by simp,by simp;omega,o3,f3,gp,aE.then (S:=λb=>aF P=some b) (a6.mod.mono λ_ _ e=>e.elim) m3 λb _ e=>e⟩;unfold yw;rw[r8 d4,v8 (r3.resolve_left d4)]
   .have r3: ¬(rl= []\/rl.getD (rl.length - 1) 0≠A.bM):=λe=>by have:=fk.2 e;rw[this]at r3;cases r3
    refine⟨rl,?_,rfl,by omega,a',bk,d6,(aE.refl _).mono λ_ _ e=>e⟩;unfold yw;rw[r8 λe=>r3 (.inl e),r8 λe=>r3 (.inr e)]
  .rintro P' N' C' z' _ ⟨ar,fP,rfl,gw,o',f',R',M'⟩;have sp:=Nl d7 (by rw[eR,<- eR];exact gf t r) λh0=>gs t h0 r;rw[eR,<- fP]at sp;have g9:0<ar.length:=Wx.2 (sp.ne (by omega)).1;have fm: ¬aF P=some n18:=λe=>by have:=bk _ e;omega
   have fj:bO z' n18 #[q.v]:=((fh.grow a7).drew).keep M' fm;refine⟨_,_,_,aP fj rfl,?_⟩;have ew:IntKind.i64.wrap ((ar.length:Int) - 1)=((ar.length - 1:Nat):Int):=by rw[ao (by omega) (by omega)];omega
   rw[ew];refine R'.VJ Bv wv {A with bM:=((ar.length - 1:Nat):Int)} (o:=1) ?_ (by omega) rfl (by omega) (by omega) (by omega) λcp ez ei=>?_
   .rw [tn,hT.vU t (vy _),hA];rfl
   .rw [tn]at ez;have fv:∀b,aF P'=some b->¬aF q.p=some b:=λb hb e=>by have:=f' b hb;have:=d9.lt b e;omega
    refine⟨_,?_,t+1,ar,_,m.set t {A with bM:=((ar.length - 1:Nat):Int)},wN,by omega,rfl,rfl,by omega,sp,⟨by rw[Xv];exact e7,λj hj=>?_,λj hj=>?_⟩,o'.keep ei fv,f',ez,?_⟩
    .omega
    .rw [tH (by omega),r8 (by omega)];exact hT.vU j (by omega)
    .rw [tH (by omega)];by_cases ej:j=t
     .subst ej;rw[v8 rfl,v8 rfl,hA]
     .rw [r8 ej,r8 ej];exact hT.new j (by omega)
    .refine ((hM.grow (a7.trans (aE.refl Q).drew)).then M' λb hb e=>?_).then ei λb _ e=>e;have:=bk b e;omega
 .have r:t=X.length:=by simp at r;omega
  subst r;refine⟨_,_,_,aP fh rfl,?_,λaz bu=>?_⟩
  .rw [hM.block d (by omega) e2,b4.block d gm e2];exact hd
  have e7:=hT.len;obtain⟨tr,fu⟩: ∃tr:List As,tr=m.map λa=>⟨a.lit,a.bM,a.rs⟩:=⟨_,rfl⟩
  have hL:tr.length=X.length:=by rw[fu];simp[e7]
  have nt:∀i,i<X.length->aZ tr i=⟨(X.getD i wv).lit,ix i,(X.getD i wv).rs⟩:=λi hi=>by
   have:aZ tr i=⟨(m.getD i wv).lit,(m.getD i wv).bM,(m.getD i wv).rs⟩:=by
    rw[fu];simp[aZ,List.getD,show i<m.length by omega]
   rw[this,hT.new i hi]
  have e1:q.n=tr.length:=by omega
  have Gu:ak w az:=by
   have h1:ak w av:=h.g.then b4 λb hb e=>by have:=h.rf b e;omega
   have h2:ak w v:=h1.then hM λb hb e=>by have:=h.rf b e;omega
   exact h2.then bu λb hb (e:b=d)=>by omega
  have gn:∀b,aF q.p=some b->¬b=d:=λb hb e=>e2 (by rw[<- e];exact hb);show K (.tuple #[.slice q.p q.n q.c,.slice P rl.length C]) az;rw[e1];have fi:=(hR.keep bu gn).vr Bv;refine hk az q.p q.c P C tr rl ⟨by omega,λi hi=>?_,λi hi=>?_,λi hi=>?_,d7.up,d7.z⟩ (λi hi=>?_) ((hO.keep bu λb hb (e:b=d)=>?_).vw) Gu (by have:=hR.cap;omega)
  .rw [nt i (by omega)];exact(h.pa _ (aT i (by omega))).mem
  .rw [nt i (by omega)];exact(h.pa _ (aT i (by omega))).rs
  .rw [nt i (by omega)];obtain⟨a,b⟩:=d7.ix i (by omega);refine⟨by show (0:Int)<=(ix i:Int);omega,by show (ix i:Int)<_;omega,?_⟩;show rl.getD ((ix i:Int)).toNat 0=_;rw[tn,b,bn i (by omega)]
  .obtain ⟨a,ea,hc⟩:=fi i (by omega);have c3:=h.pm _ (aT i (by omega));obtain⟨d2,o2⟩:=c3.o;have em:m[i]'(by omega)= {X.getD i wv with bM:=ix i}:=by
    rw[<- hT.new i (by omega)];simp[List.getD,show i<m.length by omega]
   rw[em]at hc;rw[nt i (by omega)];have fC:=o2.cap;refine⟨a,(X.getD i wv).sl,ea,hc,c3.n,by rw[c3.n];exact fC,?_⟩;refine(((o2.keep b4 λb hb e=> (c3.f b hb).2 e).keep hM λb hb e=> (c3.f b hb).2 e).keep bu λb hb (e:b=d)=>?_).vw;subst e;have:=EM o2 b hb _ hd;cases this
  .subst e;have:=bk b hb;omega
end
section
variable{w0 w w' w1 w2:World}{B N:Nat}{L L':Nat->Nat}{x:Xs}{l:List Int}
theorem TC(I:List Int):(Ho I I.length).map (·.2)=I.reverse:=by
 refine XC (by simp[Ho]) λi h1 J=>?_;have hi:i<I.length:=by simpa[Ho]using h1
 rw[List.getElem_reverse];simp[Ho,T5,show I.length - 1 - i<I.length by omega]
theorem E8:f_ prog 189=true:=by kernel_rfl
theorem TF:f_ prog 211=true:=by kernel_rfl
theorem OT(a b c d:Value):(#[]++ #[a]++ #[b,c,d]:Array Value)= #[a,b,c,d]:=by simp
theorem DW(h:SR w0 w B L N x)(g:aL x.s)(hv:x.s.vars=N)(hN:N<=1000){p:sn}{n c:Nat}{bk:List Int}(vb:Vw sT w p bk)(hn:n=bk.length)(hl:bk.length<=4096)(eA:∀y∈bk,dZ N y):
 Calls prog 161 #[cj B,.slice p n c] w λe w'=>∃ (tp:sn) (tc:Nat) (rp:sn) (rc:Nat) (tr:List As) (rl:List Int),e=.returned (.tuple #[.slice tp tr.length tc,.slice rp rl.length rc])/\
  ud x.s tr rl/\Le.TV w' tp tr/\Vw sT w' rp rl/\ak w w'/\tr.length<=tc:=by
 refine cB.aj ?_;have ei:=g.CQ;intro n1 w2 h1 n3 w4 h3 n5 w6 h5;have e1:=h1.num;have e3:=h3.num;have e5:=h5.num;have l1:=h1.has.lt;have l5:=h5.has.lt;have M3:Ia w4 n3 0 λ_=>false:=MB.new h3;have l3:=M3.lt;refine aX h5.has rfl rfl λw7 H7 m7=>?_;intro n8 w9 h8 n10 gr ni;have e8:=h8.num;have fk:=ni.num;have s7:=m7.size;have M8:Ia w9 n8 0 λ_=>false:=MB.new h8;have l8:=M8.lt;have g8:=ni.has.lt;refine aX ni.has rfl rfl λc7 bx ag=>?_;intro n13 g6 qW;have g0:=qW.num;have hw:=ag.size;have fA:=qW.has.lt;refine aX qW.has rfl rfl λX et Y=>?_;have fL:=Y.size;have z2:=h1.mod.size;have z4:=h3.mod.size;have z6:=h5.mod.size;have z9:=h8.mod.size;have g3:=ni.mod.size;have gm:=qW.mod.size;have H7:bO w7 n5 #[.map (some n3)]:=H7;have bx:bO c7 n10 #[.map (some n8)]:=bx;have A1:bO X n1 #[cj B]:=((((((h1.has.grow (h3.mod.trans h5.mod)).put m7 (by omega)).grow (h8.mod.trans ni.mod)).put ag (by omega)).grow qW.mod).put Y (by omega))
 have A5:bO X n5 #[.map (some n3)]:=(((H7.grow (h8.mod.trans ni.mod)).put ag (by omega)).grow qW.mod).put Y (by omega);have du:bO X n10 #[.map (some n8)]:=(bx.grow qW.mod).put Y (by omega);have A3:Ia X n3 0 _:=(((((M3.grow h5.mod).Il m7 (by omega)).grow (h8.mod.trans ni.mod)).Il ag (by omega)).grow qW.mod).Il Y (by omega);have A8:Ia X n8 0 _:=((((M8.grow ni.mod).Il ag (by omega)).grow qW.mod).Il Y (by omega))
 have G7:ak w w7:=aE.cE ((h1.mod.trans h3.mod).trans h5.mod) m7 (by omega);have ek:ak w c7:=aE.cE ((G7.trans h8.mod).trans ni.mod) ag (by omega);have b_:ak w X:=aE.cE (ek.trans qW.mod) Y (by omega);have d5:bO X n13 #[.func (.func 189) #[] #[.pointer (some ⟨n5,0,none⟩),.pointer (some ⟨n10,0,none⟩),.pointer (some ⟨n1,0,none⟩)]]:=et;refine⟨_,_,aP d5 rfl,?_⟩;rw[E8];refine bJ rfl ?_;rw[OT];refine(Gc h g hv hN b_ A1 A5 du A3 A8 ⟨by omega,by omega,by omega,by omega,by omega,by omega,by omega⟩ (by omega) (by omega) (vb.grow b_) hn hl eA (by omega) (by omega) λez b hb=>by have:=vb.lt ez b hb;omega).mono ?_;rintro e d'⟨rfl,gc,fm,B3,B8,an⟩;refine⟨rfl,λn18 gz tz=>?_⟩;have gl:=tz.num;have gb:=an.size;have hh:=tz.has.lt;have Z:∀k,k≠n3->k≠n8->¬(k=n3\/k=n8):=λk a b e=>e.elim a b;have ey:ak w d':=b_.then an λb hb e=>by rcases e with e|e<;>omega
 have c3:=ey.trans tz.mod;have B1:=(A1.keep an (Z _ (by omega) (by omega))).grow tz.mod;have B5:=(A5.keep an (Z _ (by omega) (by omega))).grow tz.mod;have eb:=(du.keep an (Z _ (by omega) (by omega))).grow tz.mod;have ew:=(d5.keep an (Z _ (by omega) (by omega))).grow tz.mod;have c1:=h.grow c3;obtain⟨fl,d4,_⟩:=c1.pm id;refine⟨_,aP B1 rfl,_,rfl,_,ae c1.at rfl,(Bw d4 (by omega)).mono ?_⟩;rintro e fC⟨qb,db,rfl,ob,dT,fb⟩;obtain⟨zs,bf⟩: ∃zs,zs=x.s.R .tr:=⟨_,rfl⟩
 rw[<- bf]at ob ei;refine⟨_,_,_,rfl,gO.aj ?_⟩;intro n24 w25 V;have g2:=V.num;have f0:=dT.size;have z25:=V.mod.size;have dq:=V.has.lt;have U:=dT.trans V.mod;refine⟨_,_,rfl,TF,trivial,Ho zs zs.length,λy=>y.2∈zs,λk=>k=n24\/aF qb=some k,?_,?_,?_⟩
 .exact Nr (by rw[<- bf]at V;exact V.has) (ob.grow V.mod) (by omega)
 .rintro k (rfl|hk)
  .exact dq
  .exact Xg (ob.lt k hk) z25
 have fu:(Ho zs zs.length).length=zs.length:=IM _ _;have cn:CN w w25 n1 n3 n5 n8 n10 n13 n18:=⟨by omega,by omega,by omega,by omega,by omega,by omega,by omega,by omega⟩
 have C3:=B3.grow (tz.mod.trans U);have C8:=B8.grow (tz.mod.trans U);refine⟨λdf u=>∃q pt,Ie w w25 B n1 n3 n5 n8 n10 n13 n18 x.s q pt df u/\w25.heap.size<=u.heap.size,⟨Sl.nil,[],⟨c3.trans U,B1.grow U,B5.grow U,eb.grow U,ew.grow U,⟨_,_,by simp;omega,C3⟩,⟨_,_,by simp;omega,C8⟩,tz.has.grow U,rfl,Row.nil _ _ _ _,λb hb=>by simp[Sl.nil,aF]at hb,by simp,λa ha=>by simp at ha,λa ha=>by simp at ha⟩,vy _⟩,?_,?_,?_⟩
 .rintro df W W' S ⟨q,pt,ci,ap⟩ m hS;refine⟨q,pt,ci.keep m cn (λr hr=> (hS r hr).1) (λb hb hs=>?_) (λa ha b hb hs=>?_),Wl ap m.size⟩
  .have b9:=ci.r.lt b hb;obtain⟨ax,ho⟩: ∃ax,W.heap[b]? =some ax:=⟨_,XT b9⟩
   have h1:=xn ci.r b hb _ ho;rw[(hS b hs).2 _ ho]at h1;cases h1
  .obtain ⟨d,o⟩:=(ci.pm a ha).o;have b9:=o.lt b hb;obtain⟨ax,ho⟩: ∃ax,W.heap[b]? =some ax:=⟨_,XT b9⟩
   have h1:=EM o b hb _ ho;rw[(hS b hs).2 _ ho]at h1;cases h1
 .rintro df i y W hlen av ⟨q,pt,ci,ap⟩;have av:y∈zs:=av;have ac:y∈x.s.R .tr:=by rw[<- bf];exact av
  have eL:pt.length<=df.length:=by have:=ci.sub.length_le;simpa using this
  have c0:=h.grow ci.g;have tl:∀k,(k=n24\/aF qb=some k)->n18<k/\k<w25.heap.size:=by
   rintro k (rfl|hk)
   .have:=ob.lt;exact⟨by omega,dq⟩
   .have:=fb k hk;have:=ob.lt k hk;omega
  have kb:∀ {u:World},aE (λb=>b=n3\/b=n8\/b=n18\/aF q.p=some b) W u->KB w25.heap.size (λk=>k=n24\/aF qb=some k) W u:=λ{u} m=>by
   refine UL m (λr hr=>?_) (λk hk e=>?_) λk hk=>Xg (tl k hk).2 ap
   .rcases hr with rfl|rfl|rfl|hr
    .exact .inl (by omega)
    .exact .inl (by omega)
    .exact .inl (by omega)
    .exact .inr (xn ci.r r hr)
   .have:=tl k hk;rcases e with rfl|rfl|rfl|e
    .omega
    .omega
    .omega
    .have:=ci.rf k e;omega
  have er:x.s.fH y=x.s.nD y:=Dj g ac;have el:x.s.o_ y=x.s.bM y:=NA g ac;have eF:=qF g ac;have e7:=g.RK;have e4:=g.CQ;refine⟨_,aP ci.h1 rfl,_,rfl,_,ae c0.at rfl,(c0.fH g y).mono ?_⟩;rintro e gw⟨rfl,dA⟩;have a':=ci.grow dA cn;refine⟨_,rfl,_,aP a'.h1 rfl,_,rfl,_,ae (h.grow a'.g).at rfl,((h.grow a'.g).o_ g y).mono ?_⟩;rintro e co⟨rfl,dk⟩;have a6:=a'.grow dk cn;refine⟨_,rfl,?_⟩;rw[er,el];obtain⟨k8,f8,b8,N8⟩:=a6.m8;obtain⟨k3,f3,b3,N3⟩:=a6.m3;have a7:=dA.trans dk;refine⟨λ_ u=>u=co,?_,?_⟩
  .refine ah (λ_=>⟨_,aP a6.ni rfl,co,_,N8.cY td (BH (by omega) (by omega)),rfl⟩) (λ_=>rfl)
  rintro wL J _ rfl;have c4:=g.tv y ac;have dh:=c4.bd (by omega);have gp:=c4.bo;have dd:=a6.grow (aE.refl J).drew cn;refine⟨λu=>u=J.drew,?_,?_⟩
  .refine ⟨λu=>u=J.drew,rfl,_,fI (aP dd.h5 rfl),pD.aj ⟨_,rfl,rfl,?_⟩⟩;rw[A6 dh.1 dh.2];have ed:Ia J.drew n3 k3 f3:=N3.grow (aE.refl J).drew;refine⟨J.drew,_,ed.cY td (BH (by omega) (by omega)),?_⟩;have skip:KB w25.heap.size (λk=>k=n24\/aF qb=some k) W J.drew/\∃q pt,Ie w w25 B n1 n3 n5 n8 n10 n13 n18 x.s q pt (df++ [(i,y)]) J.drew/\w25.heap.size<=J.drew.heap.size:=
    ⟨kb ((a7.trans (aE.refl J).drew).mono λ_ _ e=>e.elim),q,pt,dd.next _,Wl ap (a7.trans (aE.refl J).drew).size⟩
   exact ah (λ_=>ah (λ_=>skip) (λ_=>rfl)) (λ_=>rfl)
  rintro hj _ rfl;intro bb gy aT;have g1:=aT.num;have zW:=(a7.trans (aE.refl J).drew).size;have g':=aT.mod.size;refine aX aT.has rfl rfl λb4 aw cm=>?_;have fs:=cm.size;have a8:ak W b4:=aE.cE ((a7.trans (aE.refl J).drew).trans aT.mod) cm (by omega);have aa:=ci.grow a8 cn;have aw:bO b4 bb #[.i y,.i (x.s.bM y),.slice none 0 0]:=aw;refine ah (λr=>?_) (λr=>?_)
  .refine ⟨_,aP aa.h1 rfl,_,rfl,_,ae (h.grow aa.g).at rfl,((h.grow aa.g).OG g _).mono ?_⟩;rintro e fy⟨qc,dc,rfl,oc,bu,fc⟩;refine⟨_,_,_,_,rfl,?_⟩;obtain⟨rs,ar⟩: ∃rs,rs=(if x.s.is (x.s.nD y) then x.s.R (.a (x.s.nD y).toNat) else []):=⟨_,rfl⟩
   rw[<- ar]at oc ⊢;have ay:rs= []\/∃i,x.s.aN i/\rs=x.s.R (.a i):=by
    cases hi:x.s.is (x.s.nD y) with
    |false=>rw[hi]at ar;exact .inl ar
    |true=>
     rw[hi]at ar;obtain⟨i0,eu⟩:=aH.Ef.1 hi;exact .inr ⟨_,eu,ar⟩
   have g5:=bu.size;have g9:=aw.lt;refine cz (aw.grow bu) rfl rfl λb6 a_ bY=>?_;have fq:=bY.size;have a_:bO b6 bb #[.i y,.i (x.s.bM y),.slice qc rs.length dc]:=a_;have cT:ak W b6:=aE.cE (a8.trans bu) bY (by omega);have I:=ci.grow cT cn;refine⟨_,_,aP I.qW rfl,_,_,_,ae a_ rfl,?_⟩;rw[E8];refine bJ rfl ?_;rw[OT];obtain⟨hx,gA,fj,P8⟩:=I.m8;obtain⟨gT,gW,fa,P3⟩:=I.m3;have bg:d_ aB b6 qc dc rs:=oc.keep bY λb hb (e:b=bb)=>by have:=fc b hb;omega
   have es:rs.length<=4096:=by
    rcases ay with e| ⟨i,_,e⟩
    .rw [e];simp
    .rw [e];exact g.al i
   have ec:∀z∈rs,dZ N z:=by
    rcases ay with e| ⟨i,ht,e⟩
    .rw [e];simp
    .intro z hz;rw[e]at hz;rw[<- hv];exact g.cv i ht z ((g.ca i ht z).2 hz)
   have zz:=I.g.size;refine(Gc h g hv hN I.g I.h1 I.h5 I.ni P3 P8 ⟨by omega,by omega,by omega,by omega,by omega,by omega,by omega⟩ (by omega) (by omega) bg.vw rfl es ec (by omega) (by omega) λ_ b hb=>by have:=fc b hb;omega).mono ?_;rintro e b'⟨rfl,t3,t8,Q3,Q8,O⟩;refine⟨rfl,?_⟩;have gx:=O.size;have Q:∀k,k≠n3->k≠n8->¬(k=n3\/k=n8):=λk a b e=>e.elim a b;have eg:Ie w w25 B n1 n3 n5 n8 n10 n13 n18 x.s q pt (df++ [(i,y)]) b':=by
    refine⟨I.g.then O λb hb e=>by rcases e with e|e<;>omega,I.h1.keep O (Q _ (by omega) (by omega)),I.h5.keep O (Q _ (by omega) (by omega)),I.ni.keep O (Q _ (by omega) (by omega)),I.qW.keep O (Q _ (by omega) (by omega)),⟨_,_,by simp;omega,Q3⟩,⟨_,_,by simp;omega,Q8⟩,I.tz.keep O (Q _ (by omega) (by omega)),I.qn,I.r.keep O λb hb e=>?_,I.rf,(I.next (i,y)).sub,I.pa,λa ha=>⟨(I.pm a ha).n,?_,(I.pm a ha).f⟩⟩
    .have:=I.rf b hb;rcases e with e|e<;>omega
    .obtain ⟨d,o⟩:=(I.pm a ha).o;exact⟨d,o.keep O λb hb e=>by have:=((I.pm a ha).f b hb).1;rcases e with e|e<;>omega⟩
   have hm:TL w25 b' q ⟨y,x.s.bM y,⟨qc,rs.length,dc⟩,rs⟩:=by
    refine⟨rfl,⟨dc,bg.keep O λb hb e=>?_⟩,λb hb=>?_⟩
    .have:=fc b hb;rcases e with e|e<;>omega
    .have:=fc b hb;refine⟨by omega,λe=>?_⟩;have:=aa.r.lt b e;omega
   have ea:bO b' bb #[.i y,.i (x.s.bM y),.slice qc rs.length dc]:=a_.keep O λe=>by rcases e with e|e<;>omega
   refine Cr (i:=i) (a:=⟨y,x.s.bM y,⟨qc,rs.length,dc⟩,rs⟩) eg I.sub cn (by omega) (by omega) ea ⟨ac,rfl,ay⟩ hm λu' q' c' mm=>⟨kb ?_,q',_,c',?_⟩
   .exact ((cT.mono λ_ _ e=>e.elim).then O λb _ e=>by rcases e with e|e<;>simp[e]).then mm λb _ e=> .inr (.inr e)
   .have:=mm.size;omega
  .have hm:TL w25 b4 q ⟨y,x.s.bM y,Sl.nil,[]⟩:=⟨rfl,⟨0,Ow.nil _ _ _⟩,λb hb=>by simp[Sl.nil,aF]at hb⟩
   refine Cr (i:=i) (a:=⟨y,x.s.bM y,Sl.nil,[]⟩) (aa.next (i,y)) aa.sub cn (by omega) (by omega) aw ⟨ac,rfl,.inl rfl⟩ hm λu' q' c' mm=>⟨kb ?_,q',_,c',?_⟩
   .exact aE.then (S:=λb=>b=n3\/b=n8\/b=n18\/aF q.p=some b) (a8.mono λ_ _ e=>e.elim) mm λb _ e=> .inr (.inr e)
   .have:=mm.size;have:=a8.size;omega
 .intro d fo hd hD hI;obtain⟨q,pt,ci,ap⟩:=hI;have bi:=ci.sub;rw[TC,bf]at bi;exact KV (K:=λv w'=>∃ (tp:sn) (tc:Nat) (rp:sn) (rc:Nat) (tr:List As) (rl:List Int),Ending.returned v=.returned (.tuple #[.slice tp tr.length tc,.slice rp rl.length rc])/\ud x.s tr rl/\Le.TV w' tp tr/\Vw sT w' rp rl/\ak w w'/\tr.length<=tc) g cn ci ap (by omega) bi hD hd λu' tp tc rp rc tr rl cs tv vr gu hc=>⟨tp,tc,rp,rc,tr,rl,rfl,cs,tv,vr,gu,hc⟩
end
