/- slices.Backward's iterator: its contract. -/
import Derived.Test.YtbdghpjnifjlmaaGreatRupB
import Derived.RangeFuncBox
import Derived.RangeFuncLeaves
import Derived.Shelf.Abstract
import Derived.WalkKit
import Derived.OwnWalkIn
import Derived.TacticsInMore
import Derived.LoopNIn
import Derived.LoopIn
set_option linter.unusedVariables false
namespace Go.Proofs
open Go.RowKit Go.Shelf Go.Fw
attribute [local go_sem] Oper.semAt_some
def Ty (I:List Int) (k:Nat):Int × Int:=(((I.length - 1 - k:Nat):Int),I[I.length - 1 - k]?.getD 0)
def GP (I:List Int) (k:Nat):List (Int × Int):=(List.range k).map (Ty I)
theorem Nv (I:List Int) (k:Nat):GP I (k+1)=GP I k++ [Ty I k]:=by simp [GP,WA]
theorem HY (I:List Int) (k:Nat):(GP I k).length=k:=by simp [GP]
set_option maxRecDepth 100000 in
set_option maxHeartbeats 2000000 in
theorem Te (n:Nat) (hn:1<=n) (l Y b cap:Nat) (I:List Int) (ac:I.length*8<=140737488351232) (T:Nat->Prop) (ag:T Y) (ar:T b)
 (J Jx:List {x:Int × Int // x.2∈I}->World->Prop)
 (hY:∀dA x W1,J dA W1->dA.length<I.length->YieldAt Fence.wide (n - 1) Tryz.prog l #[.i x.1.1,.i x.1.2] W1 λe V=>
   (e=.returned (.bool true)/\J (dA++ [x]) V/\Sm T W1 V)\/(e=.returned (.bool false)/\Jx (dA++ [x]) V))
 (W:World) (ap:W.cell? ⟨Y,0,none⟩=some (.slice (some ⟨b,0,none⟩) I.length cap)) (hc:∀j,j<I.length->W.cell? ⟨b,0+j,none⟩=some (.i (I[j]?.getD 0))) (h0:J [] W):
 CallsIn Fence.wide n Tryz.prog 211 #[.func (.yield l) #[] #[],.pointer (some ⟨Y,0,none⟩)] W λe V=> (∃v,e=.returned v)/\
  ((∃O,O.map (·.1)=GP I I.length/\J O V)\/(∃dA,True/\Jx dA V)):=by
 refine callsIn_of_wp Tryz.func211 rfl trivial ?_ rfl;simp only [show Tryz.f211.ntmps=19 from rfl,Wb,U9,VE,Nat.reduceAdd,Nat.reduceSub,Array.replicate_succ,Array.replicate_zero,List.push_toArray,List.append_toArray,Vh,WN]
 gi_wp2
 gi_loopw [3] (λi wr=>∃k:Nat,k<=I.length/\i=.i ((I.length:Int) - 1 - k)/\(∃O,O.map (·.1)=GP I k/\J O wr)/\Sm T W wr)
  (λi _=> (intOf i+1).toNat)
 case atStart=>exact ⟨0,vx _,by simp,⟨[],rfl,h0⟩,λ_ _=>rfl⟩
 case round=>
  obtain ⟨k,hk,rfl,⟨O,U,aa⟩,Q⟩:=hrel;have a_:wr.cell? ⟨Y,0,none⟩=some (.slice (some ⟨b,0,none⟩) I.length cap):=by
   rw [<- ap];exact World.cell?_of_block (Q Y ag)
  by_cases ay:k<I.length
  . have bb:wr.cell? ⟨b,I.length - 1 - k,none⟩=some (.i (I[I.length - 1 - k]?.getD 0)):=by
     have:=hc (I.length - 1 - k) (by omega);rw [UX] at this;rw [<- this];exact World.cell?_of_block (Q b ar)
    have Z:I[I.length - 1 - k]?.getD 0∈I:=by simp [show I.length - 1 - k<I.length by omega]
    have av:O.length=k:=by have:=congrArg List.length U;simpa [GP] using this
    obtain ⟨fn,tmps,assign,body,hy,hR⟩:=hY O ⟨Ty I k,Z⟩ wr aa (by rw [av];exact ay);dsimp only [Ty] at hy;have ei:(I.length:Int) - 1 - k=((I.length - 1 - k:Nat):Int):=by omega
    rw [ei];have ge:(0:Int)<=((I.length - 1 - k:Nat):Int):=by omega
    gi_wp2
    refine hR.mono ?_;rintro e W3 (⟨rfl,an,aw⟩| ⟨rfl,X⟩)
    . gi_wp2
      go_roundw
      case rel=>exact ⟨k+1,by omega,by simp;omega,⟨_,by rw [LV,U,Nv];rfl,an⟩,λj hj=> (aw j hj).trans (Q j hj)⟩
      case measure=>simp [intOf]
    . gi_wp2
      refine bodyPost_ret (results_none rfl _ _ _) rfl ?_;exact ⟨⟨_,rfl⟩,.inr ⟨_,trivial,X⟩⟩
  . obtain rfl:k=I.length:=by omega
    have ei:(I.length:Int) - 1 - (I.length:Int)= -1:=by omega
    rw [ei]
    gi_wp2
    go_end0
    exact ⟨⟨_,rfl⟩,.inl ⟨_,U,aa⟩⟩
set_option maxRecDepth 100000 in
set_option maxHeartbeats 2000000 in
theorem QB (n:Nat) (l O:Nat) (J:List {x:Int × Int // x.2∈([]:List Int)}->World->Prop) (W:World) (V:W.cell? ⟨O,0,none⟩=some (.slice none 0 0)) (U:J [] W):
 CallsIn Fence.wide n Tryz.prog 211 #[.func (.yield l) #[] #[],.pointer (some ⟨O,0,none⟩)] W λe Q=> (∃v,e=.returned v)/\J [] Q:=by
 refine callsIn_of_wp Tryz.func211 rfl trivial ?_ rfl;simp only [show Tryz.f211.ntmps=19 from rfl,Wb,U9,VE,Nat.reduceAdd,Nat.reduceSub,Array.replicate_succ,Array.replicate_zero,List.push_toArray,List.append_toArray,Vh,WN]
 gi_wp2
 gi_loopw [3] (λi wr=>i=.i (-1)/\J [] wr) (λ_ _=>0)
 case atStart=>exact ⟨rfl,U⟩
 case round=>
  obtain ⟨rfl,I⟩:=hrel
  gi_wp2
  go_end0
  exact ⟨⟨_,rfl⟩,I⟩
open Go.Proofs.YtbdghpjnifjlmaaGreat.W in
theorem Mz {w:World} {Q:Nat} {X:sn} {cap:Nat} {O:List Int} (hB:bT w Q #[.slice X O.length cap]) (o:dz aq w X cap O) (I:O.length*8<=140737488351232):
 Rx Tryz.prog 211 #[.pointer (some ⟨Q,0,none⟩)] (GP O O.length) (λp=>p.2∈O) (λk=>k=Q\/aG X=some k) w:=by
 intro n hn l J Jx W hW _ _ hY Z;have g:=Go.Fw.aD.KD hW;have U:=hB.grow g;have Y:=o.grow g;rcases Y.un with ⟨rfl,rfl,rfl⟩| ⟨b,cur,rfl,_⟩
 . exact (QB n l Q J W (aV U rfl) Z).mono λe W' ⟨he,V⟩=>⟨he,.inl ⟨[],rfl,V⟩⟩
 . refine Te n hn l Q b cap O I (λk=>k=Q\/aG (some (⟨b,0,none⟩:Addr))=some k) (.inl rfl) (.inr rfl) J Jx (λdA x W1 h1 h2=>hY dA x W1 h1 (by rw [HY];exact h2)) W (aV U rfl) (λj V=>?_) Z;obtain ⟨a,e,hc⟩:=Y.vw j V;cases e;rw [dI] at hc;rw [hc];simp [V]
end Go.Proofs
namespace Go.Proofs.YtbdghpjnifjlmaaGreat.W
open Go Go.Fw Go.RowKit Go.SoP Go.LiP Go.LeP
open Go.Proofs.Tryz (prog)
section
variable {w0 w w' w1 w2 W0:World} {B N:Nat} {L L':Nat->Nat} {x:Xs} {l:List Int}
theorem ti:vq prog 216 aq cC=true:=by kernel_rfl
abbrev Gd:=MB prog aq cC
theorem qo {s:aI} (g:aN s) {y:Int} (I:y∈s.R .tr):0<=s.bI y/\s.bI y<=(s.R .be).length:=by
 obtain ⟨p,hp,e⟩:=BH I;have:=g.lv p hp;rw [e] at this;have J:=VK (p:=λe:Int=>decide (e<=(p:Int))) (l:=s.R .be);omega
theorem Nw {s:aI} (g:aN s) {y:Int} (J:dN s.vars y): -1<=s.nS y/\s.nS y<=s.vars:=by
 have hb:=g.P_;have ht:=g.Ck;unfold aI.nS;split
 . rename_i h;simp only [ts,bne_iff_ne,ne_eq] at h;have O: ¬(y ∉ s.R .tr/\ -y ∉ s.R .tr):=λe=>h.2 ((js g J).2 e);by_cases e:y∈s.R .tr
   . have:=qo g e;omega
   . have I: -y∈s.R .tr:=UP λI=>O ⟨e,I⟩;have:=qo g I;rw [sQ] at this;omega
 . omega
theorem NA {s:aI} (g:aN s) {y:Int} (I:y∈s.R .tr):s.nS y=s.bI y:=by
 have hv:=g.tv y I;unfold aI.nS;have h1:=(jc g.eG).2 hv;have J:s.val y≠0:=by have:=(g.v1 y hv).2 I;omega
 rw [if_pos (by simp [h1,J])]
theorem B2 {s:aI} (g:aN s) {y:Int} (I:y∈s.R .tr):s.fE y=s.m_ y:=by
 have hv:=g.tv y I;unfold aI.fE;have h1:=(jc g.eG).2 hv;have J:s.val y≠0:=by have:=(g.v1 y hv).2 I;omega
 rw [if_pos (by simp [h1,J])]
theorem SR.nS (h:SR w0 w B L N x) (g:aN x.s) (v:Int):Calls prog fN.id #[ck x.pb,.i v] w λe w'=>e=.returned (.i (x.s.nS v))/\ak w w':=by
 obtain ⟨H,pm,_⟩:=h.pm id;exact Jr pm g.wf v
theorem SR.fE (h:SR w0 w B L N x) (g:aN x.s) (v:Int):Calls prog eP.id #[ck x.pb,.i v] w λe w'=>e=.returned (.i (x.s.fE v))/\ak w w':=by
 obtain ⟨H,pm,_⟩:=h.pm id;exact IQ pm g.wf v
theorem SR.Lx (h:SR w0 w B L N x) (g:aN x.s) (i:Int):Calls prog eW.id #[ck x.pb,.i i] w λe w'=>
 ∃ (q:sn) (d:Nat),e=.returned (.tuple #[.slice q (if x.s.is i then x.s.R (.a i.toNat) else []).length d,.bool (x.s.is i)])/\dz aq w' q d (if x.s.is i then x.s.R (.a i.toNat) else [])/\ak w w'/\(∀b,aG q=some b->w.heap.size<=b):=by
 obtain ⟨H,pm,_⟩:=h.pm id;exact J1 pm i λj=>by have:=g.al j;omega
theorem DX (h:SR w0 W0 B L N x) (g:aN x.s) (hv:x.s.vars=N) (hN:N<=1000) (G:ak W0 w) {n1 n3 n5 n8 n10 k3 k8:Nat} {s3 s8:Int->Bool}
 (h1:bT w n1 #[ck B]) (h5:bT w n5 #[.map (some n3)]) (lU:bT w n10 #[.map (some n8)]) (M3:Gd w n3 k3 s3) (M8:Gd w n8 k8 s8) (ne:n3≠n8/\n1≠n3/\n1≠n8/\n5≠n3/\n5≠n8/\n10≠n3/\n10≠n8) (f3:W0.heap.size<=n3) (f8:W0.heap.size<=n8)
 {p:sn} {n c:Nat} (vc:Vw sT w p l) (hn:n=l.length) (hl:l.length<=4096) (a8:∀y∈l,dN N y) (bv:k3<=100000000) (b5:k8<=100000000) (hp:l≠[]->∀b,aG p=some b->b≠n3/\b≠n8):
 Calls prog fe.id #[.slice p n c,.pointer (some ⟨n5,0,none⟩),.pointer (some ⟨n10,0,none⟩),.pointer (some ⟨n1,0,none⟩)] w λe w'=>e=.returned (.tuple #[])/\
  ∃J O,Gd w' n3 (k3+l.length) J/\Gd w' n8 (k8+l.length) O/\aD (λb=>b=n3\/b=n8) w w':=by
 refine fe.aj ?_;obtain ⟨e1,e2,e3,e4,e5,e6,e7⟩:=ne;refine ⟨λV u k=>∃ (t:Nat) (J O:Int->Bool),V=t/\t<=l.length/\k=l.length - t/\Gd u n3 (k3+t) J/\Gd u n8 (k8+t) O/\aD (λb=>b=n3\/b=n8) w u,⟨_,0,s3,s8,rfl,vx _,rfl,M3,M8,aD.refl _⟩,?_⟩;rintro V u k _ ⟨t,J,O,rfl,ht,rfl,m3,m8,mm⟩;refine ah (λr=>?_) (λr=>?_)
 . have r:t<l.length:=by simp at r;omega
   have vu:=vc.mK mm λa_ b hb e=>by have:=hp a_ b hb;rcases e with e|e<;>simp_all
   refine vu.ix 0 (by omega) hn (by omega) λa ha=>⟨_,ha,?_⟩
   rw [tn];obtain ⟨y,hy⟩: ∃y,l.getD t 0=y:=⟨_,rfl⟩
   have av:y∈l:=by rw [<- hy];simp [List.getD,r]
   have Z:=a8 y av;have hb:=Z.bd (by omega);have b6:=Z.bh;rw [hy];have H5:bT u n5 _:=h5.keep mm λe=>by rcases e with e|e<;>omega
   have b8:bT u n10 _:=lU.keep mm λe=>by rcases e with e|e<;>omega
   have H1:bT u n1 _:=h1.keep mm λe=>by rcases e with e|e<;>omega
   refine ⟨λv=>v=u.drew,rfl,_,fF (aV H5.drew rfl),pe.aj ⟨_,rfl,rfl,?_⟩⟩;rw [Ax hb.1 hb.2];have a7:Gd u.drew n3 (k3+t) J:=m3.grow (aD.refl u).drew;have ax:Gd u.drew n8 (k8+t) O:=m8.grow (aD.refl u).drew;obtain ⟨I,a6,a',Y⟩:=a7.put ti (by unfold maxLen;omega) (a:=bh y) (A9 (by omega) (by omega)) true;refine ⟨I,a6,λv=>ak I.drew v,aD.refl _,?_⟩;have Q:aD (λb=>b=n3\/b=n8) w I.drew:=((mm.grow (aD.refl u).drew).then Y λb _ (e:b=n3)=> .inl e).grow (aD.refl _).drew;have ap:bT I.drew n10 _:=(lU.keep Q λe=>by rcases e with e|e<;>omega)
   have ay:bT I.drew n1 _:=(h1.keep Q λe=>by rcases e with e|e<;>omega)
   have GA:ak W0 I.drew:=G.then Q λb hb e=>by rcases e with e|e<;>omega
   have SA:=h.grow GA;refine ⟨_,λv gv=>aV (ap.grow gv) rfl,_,λv gv=>aV (ay.grow gv) rfl,_,rfl,_,λv gv=>ae (SA.at.grow gv) rfl,(SA.nS g y).mono ?_⟩;rintro e bk ⟨rfl,U⟩;have bY:=Nw g (y:=y) (by rw [hv];exact Z);have ar:=(ax.F6 Y (Vc e1)).grow ((aD.refl I).drew.trans U);obtain ⟨aT,aw,az,X⟩:=ar.put ti (by unfold maxLen;omega) (a:=x.s.nS y) (A9 (by omega) (by omega)) true;refine ⟨_,rfl,U,aT,aw,_,?_,t+1,_,_,wN,by omega,rfl,(a'.grow ((aD.refl I).drew.trans U)).F6 X e1,az,(Q.grow U).then X λb _ (e:b=n8)=> .inr e⟩;omega
 . have r:t=l.length:=by simp at r;omega
   subst r;exact ⟨rfl,J,O,m3,m8,mm⟩
structure Pa where
 lit:Int
 bI:Int
 sl:Sl
 rs:List Int
def uX:Pa:=⟨0,0,Sl.nil,[]⟩
def IZ (a:Pa):List Value:= [.i a.lit,.i a.bI,a.sl.v]
theorem Af:GV 3 IZ:=⟨λ_=>rfl,by omega,λx v hv=>by
 simp only [IZ,UI,WO,or_false] at hv;rcases hv with rfl|rfl|rfl<;>rfl⟩
def QT (l:List Pa) (k:Nat) (m:List Pa):Prop:=m.length=l.length/\∀i,i<l.length->m.getD i uX=if i<k\/l.length<=i+k then l.getD (l.length - 1 - i) uX else l.getD i uX
theorem tu {b:List Pa} {i j:Nat} {x:Pa} (hi:i<b.length):(b.set i x).getD j uX=if j=i then x else b.getD j uX:=by
 simp only [y6,VC];by_cases h:j=i
 . subst h;simp [hi]
 . rw [if_neg (λe=>h e.symm),if_neg h]
theorem Hb {p:sn} {n c:Nat} {l:List Pa} (o:Row 3 IZ cE w p c l) (hn:n=l.length) (hl:l.length<=1000000):Calls prog bo.id #[.slice p n c] w λe w'=>e=.returned (.tuple #[])/\Row 3 IZ cE w' p c l.reverse/\aD (λb=>aG p=some b) w w':=by
 refine bo.aj ?_;subst hn;refine ⟨λI J u k=>∃ (t:Nat) (m:List Pa),I=t/\J=(l.length:Int) - 1 - t/\t+t<=l.length+1/\k=l.length - t/\QT l t m/\Row 3 IZ cE u p c m/\aD (λb=>aG p=some b) w u,
  ⟨_,0,l,rfl,by rw [aA (by omega) (by omega)];omega,by omega,rfl,⟨rfl,λi hi=>by rw [if_neg (by omega)]⟩,o,aD.refl _⟩,?_⟩
 rintro I J u k _ ⟨t,m,rfl,rfl,ht,rfl,⟨O,Q⟩,R,M⟩;refine ah (λr=>?_) (λr=>?_)
 . have r:(t:Int)< (l.length:Int) - 1 - t:=by simpa using r
   obtain ⟨j,hj⟩: ∃j:Nat,(l.length:Int) - 1 - t=j:=⟨l.length - 1 - t,by omega⟩
   rw [hj];have Rd:=R.drew;have v:=Rd.vr Af;refine v.ix uX (by omega) O.symm (by omega) λa ha=>⟨_,_,_,_,_,ha,v.ix uX (by omega) O.symm (by omega) λa2 X=>⟨_,_,_,_,_,X,?_⟩⟩
   refine Rd.st Af (m.getD j uX) rfl rfl (by omega) O.symm (by omega) λar U V=>?_;refine U.st Af (m.getD t uX) rfl rfl (by omega) (by rw [VT];exact O.symm) (by omega) λag Z Y=>?_;refine ⟨_,?_,t+1,_,wN,?_,by omega,rfl,⟨?_,λi hi=>?_⟩,Z,((M.grow (aD.refl u).drew).trans V).trans Y⟩
   . omega
   . rw [aA (by omega) (by omega)];omega
   . simp [O]
   . rw [tn,tn,tu (by rw [VT];omega),tu (by omega)];have a1:=Q j (by omega);have a2:=Q t (by omega);rw [if_neg (by omega)] at a1 a2;by_cases e:i=j
     . subst e;rw [if_pos rfl,a2,if_pos (by omega)];congr 1;omega
     . rw [if_neg e];by_cases e2:i=t
       . subst e2;rw [if_pos rfl,a1,if_pos (by omega)];congr 1;omega
       . rw [if_neg e2,Q i hi];by_cases e3:i<t\/l.length<=i+t
         . rw [if_pos e3,if_pos (by omega)]
         . rw [if_neg e3,if_neg (by omega)]
 . have r: ¬(t:Int)< (l.length:Int) - 1 - t:=by simpa using r
   refine ⟨rfl,?_,M⟩;have:m=l.reverse:=by
    refine VH (by simp [O]) λi h1 h2=>?_;have:=Q i (by omega);rw [List.getElem_reverse];have e1:m.getD i uX=m[i]:=by simp [List.getD,h1]
    rw [<- e1,this];have hi:i<l.length:=by omega
    by_cases e:i<t\/l.length<=i+t
    . rw [if_pos e];simp [List.getD,show l.length - 1 - i<l.length by omega]
    . rw [if_neg e];have:l.length - 1 - i=i:=by omega
      simp [List.getD,hi,this]
   rw [<- this];exact R
end
section
variable {w0 w w' w1 w2 W0 w25 u u':World} {B N n1 n3 n5 n8 n10 n13 n18:Nat} {L L':Nat->Nat} {x:Xs} {l:List Int} {s:aI} {dA:List (Int × Int)} {q:Sl} {pt:List Pa}
theorem SX {C:Nat} {T S:Nat->Prop} (m:aD S u u') (V:∀r,S r->r<C\/∀o,u.heap[r]? =some o->o.isCells=true) (U:∀k,T k->¬S k) (hl:∀k,T k->k<u.heap.size):KB C T u u':=by
 refine ⟨⟨m.size,λk o J I Q=>?_⟩,λk J=>m.block k (hl k J) (U k J)⟩;have O:k<u.heap.size:=(VA.1 I).1;by_cases e:S k
 . rcases V k e with h|h
   . omega
   . rw [h o I] at Q;cases Q
 . exact (m.block k O e).trans I
structure SJ (s:aI) (a:Pa):Prop where
 mem:a.lit∈s.R .tr
 bI:a.bI=s.bI a.lit
 rs:a.rs= []\/∃i,s.aO i/\a.rs=s.R (.a i)
structure Se (w25 u:World) (q:Sl) (a:Pa):Prop where
 n:a.sl.n=a.rs.length
 o:∃d,dz aq u a.sl.p d a.rs
 f:∀b,aG a.sl.p=some b->w25.heap.size<=b/\aG q.p≠some b
structure CN (w w25:World) (n1 n3 n5 n8 n10 n13 n18:Nat):Prop where
 a:w.heap.size<=n1
 b:n1<n3
 c:n3<n5
 d:n5<n8
 e:n8<n10
 f:n10<n13
 g:n13<n18
 h:n18<w25.heap.size
structure FY (w w25:World) (B n1 n3 n5 n8 n10 n13 n18:Nat) (s:aI) (q:Sl) (pt:List Pa) (dA:List (Int × Int)) (u:World):Prop where
 g:ak w u
 h1:bT u n1 #[ck B]
 h5:bT u n5 #[.map (some n3)]
 lU:bT u n10 #[.map (some n8)]
 pO:bT u n13 #[.func (.func 189) #[] #[.pointer (some ⟨n5,0,none⟩),.pointer (some ⟨n10,0,none⟩),.pointer (some ⟨n1,0,none⟩)]]
 m3:∃k f,k<=4096+4096*dA.length/\Gd u n3 k f
 m8:∃k f,k<=4096+4096*dA.length/\Gd u n8 k f
 ux:bT u n18 #[q.v]
 qn:q.n=pt.length
 r:Row 3 IZ cE u q.p q.c pt
 rf:∀b,aG q.p=some b->w25.heap.size<=b
 sub:(pt.map (·.lit)).Sublist (dA.map (·.2))
 pa:∀a∈pt,SJ s a
 pm:∀a∈pt,Se w25 u q a
theorem EW {p:sn} {d:Nat} (o:dz aq u p d l):∀b,aG p=some b->∀I,u.heap[b]? =some I->I.isCells=true:=by
 intro b hb I J;rcases o.un with ⟨rfl,_⟩| ⟨g,cur,rfl,O,_⟩
 . simp [aG] at hb
 . simp [aG] at hb;subst hb;rw [O] at J;cases J;rfl
theorem wP {p:sn} {d:Nat} (o:Row 3 IZ cE u p d pt):∀b,aG p=some b->∀I,u.heap[b]? =some I->I.isCells=true:=by
 intro b hb I J;rcases o.un with ⟨rfl,_⟩| ⟨g,cur,rfl,O,_⟩
 . simp [aG] at hb
 . simp [aG] at hb;subst hb;rw [O] at J;cases J;rfl
theorem FY.keep (h:FY w w25 B n1 n3 n5 n8 n10 n13 n18 s q pt dA u) {S:Nat->Prop} (m:aD S u u') (cn:CN w w25 n1 n3 n5 n8 n10 n13 n18) (I:∀r,S r->w25.heap.size<=r) (hr:∀b,aG q.p=some b->¬S b) (hp:∀a∈pt,∀b,aG a.sl.p=some b->¬S b):FY w w25 B n1 n3 n5 n8 n10 n13 n18 s q pt dA u':=by
 obtain ⟨a,b,c,d,e,f,g,V⟩:=cn;have no:∀k,k<w25.heap.size->¬S k:=λk X hs=>by have:=I k hs;omega
 obtain ⟨Q,f3,U,m3⟩:=h.m3;obtain ⟨O,f8,J,m8⟩:=h.m8;exact ⟨h.g.then m λr hr hs=>by have:=I r hs;omega,h.h1.keep m (no _ (by omega)),h.h5.keep m (no _ (by omega)),h.lU.keep m (no _ (by omega)),h.pO.keep m (no _ (by omega)),⟨Q,f3,U,m3.keep m (no _ (by omega))⟩,⟨O,f8,J,m8.keep m (no _ (by omega))⟩,h.ux.keep m (no _ (by omega)),h.qn,h.r.keep m hr,h.rf,h.sub,h.pa,
  λa ha=>⟨(h.pm a ha).n,by obtain ⟨d,o⟩:=(h.pm a ha).o;exact ⟨d,o.keep m (hp a ha)⟩,(h.pm a ha).f⟩⟩
theorem FY.grow (h:FY w w25 B n1 n3 n5 n8 n10 n13 n18 s q pt dA u) (m:ak u u') (cn:CN w w25 n1 n3 n5 n8 n10 n13 n18):FY w w25 B n1 n3 n5 n8 n10 n13 n18 s q pt dA u':=
 h.keep m cn (λ_ e=>e.elim) (λ_ _ e=>e) λ_ _ _ _ e=>e
theorem FY.next (h:FY w w25 B n1 n3 n5 n8 n10 n13 n18 s q pt dA u) (y:Int × Int):FY w w25 B n1 n3 n5 n8 n10 n13 n18 s q pt (dA++ [y]) u:=by
 obtain ⟨I,f3,Q,m3⟩:=h.m3;obtain ⟨J,f8,O,m8⟩:=h.m8;exact ⟨h.g,h.h1,h.h5,h.lU,h.pO,⟨I,f3,by simp;omega,m3⟩,⟨J,f8,by simp;omega,m8⟩,h.ux,h.qn,h.r,h.rf,h.sub.trans (by rw [LV];exact List.sublist_append_left _ _),h.pa,h.pm⟩
theorem JS:pR prog 197 cE 3 40=true:=by kernel_rfl
theorem TA {a:Pa} {b:Nat} (h:bT u b #[.i a.lit,.i a.bI,a.sl.v]):Vr 3 IZ u (some ⟨b,0,none⟩) [a]:=by
 intro j I;have:j=0:=by simpa using I
 subst this;exact ⟨_,rfl,ae h rfl,ae h rfl,ae h rfl,trivial⟩
theorem BB {i:Int} {a:Pa} (h:FY w w25 B n1 n3 n5 n8 n10 n13 n18 s q pt (dA++ [(i,a.lit)]) u) (hs:(pt.map (·.lit)).Sublist (dA.map (·.2))) (cn:CN w w25 n1 n3 n5 n8 n10 n13 n18) (cm:w25.heap.size<=u.heap.size) (hl:pt.length<=1000000) {a8:Nat} (bi:bT u a8 #[.i a.lit,.i a.bI,a.sl.v]) (bn:SJ s a) (hm:Se w25 u q a) {K:World->Prop}
 (hk:∀u' q',FY w w25 B n1 n3 n5 n8 n10 n13 n18 s q' (pt++ [a]) (dA++ [(i,a.lit)]) u'->aD (λb=>b=n18\/aG q.p=some b) u u'->K u'):
 ∃ac Z ag,u.cell? (qw n18)=some (.slice ac Z ag)/\
  ∃aT a7 Y an ar,aK u (qw a8) 0 [.i aT,.i a7,.slice Y an ar]/\
  ∀av O,jI (.cells #[.i aT,.i a7,.slice Y an ar] 221) u av O->
  ∃aw X aa ap,(Builtin.append_ #[197,197] 197 #[.slice ac Z ag,.slice (some (qw av)) 1 1]).run prog O=.ok (.slice X aa ap) aw/\
  ∃J,bB (qw n18) 0 [.slice X aa ap] aw J/\K J:=by
 refine ⟨_,_,_,aV h.ux rfl,_,_,_,_,_,jq bi,λav O Q=>?_⟩;have a6:=h.grow Q.mod cn;have cp:=Q.num;refine Row.mA Af JS a6.r (TA (a:=a) Q.has) h.qn rfl (by simp;omega) λaw p' c' bk ax bb b4=>?_;obtain ⟨ca,cb,cc,cd,ce,cf,cg,bg⟩:=cn;have nb:∀k,k<w25.heap.size->¬aG q.p=some k:=λk hk e=>by have:=h.rf k e;omega
 refine bD (a6.ux.keep ax (nb _ bg)) rfl rfl λJ bc az=>?_;have bx:=Q.mod.size;have pf:∀b,aG p'=some b->w25.heap.size<=b:=λb hb=>by
  rcases bb with rfl|rfl
  . exact h.rf b hb
  . have:O.heap.size=b:=by simpa [aG] using hb
    omega
 have U:aD (λb=>b=n18\/aG q.p=some b) u J:=((aD.then (S:=λb=>b=n18\/aG q.p=some b) (Q.mod.mono λ_ _ e=>e.elim) ax λb _ e=> .inr e)).then az λb _ (e:b=n18)=> .inl e;have no:∀k,k≠n18->k<w25.heap.size->¬(k=n18\/aG q.p=some k):=λk h1 h2 e=>by
  rcases e with e|e
  . exact h1 e
  . exact nb k h2 e
 obtain ⟨k3,f3,b3,M3⟩:=h.m3;obtain ⟨k8,f8,b8,M8⟩:=h.m8;have a_:∀V:Pa,Se w25 u q V->Se w25 J ⟨p',(pt++ [a]).length,c'⟩ V:=λV ha=>by
  obtain ⟨d,o⟩:=ha.o;refine ⟨ha.n,⟨d,o.keep U λb hb e=>?_⟩,λb hb=>⟨(ha.f b hb).1,λe=>?_⟩⟩
  . have:=ha.f b hb;rcases e with e|e
    . omega
    . exact this.2 e
  . have b9:=o.lt b hb;rcases bb with e'|e'
    . have e:aG p'=some b:=e;rw [e'] at e;exact (ha.f b hb).2 e
    . have e:aG p'=some b:=e;rw [e'] at e;have:O.heap.size=b:=by simpa [aG] using e
      omega
 refine hk J ⟨p',(pt++ [a]).length,c'⟩ ⟨h.g.then U λr hr e=>?_,h.h1.keep U (no _ (by omega) (by omega)),h.h5.keep U (no _ (by omega) (by omega)),h.lU.keep U (no _ (by omega) (by omega)),h.pO.keep U (no _ (by omega) (by omega)),⟨k3,f3,b3,M3.keep U (no _ (by omega) (by omega))⟩,⟨k8,f8,b8,M8.keep U (no _ (by omega) (by omega))⟩,bc,rfl,bk.keep az λb hb (e:b=n18)=>?_,pf,?_,λV I=>?_,λV I=>?_⟩ U
 . rcases e with e|e
   . omega
   . have:=h.rf r e;have:=h.g.size;exact absurd e (nb r (by omega))
 . have:=pf b hb;omega
 . rw [LV,LV];exact hs.append (Xd _)
 . rcases F'.1 I with I|I
   . exact h.pa V I
   . rw [Bs] at I;subst I;exact bn
 . rcases F'.1 I with I|I
   . exact a_ V (h.pm V I)
   . rw [Bs] at I;subst I;exact a_ _ hm
end
section
variable {w0 w w' w1 w2 W0 w25 u u':World} {B N n1 n3 n5 n8 n10 n13 n18:Nat} {L L':Nat->Nat} {x:Xs} {l:List Int} {s:aI} {dA:List (Int × Int)} {q:Sl} {pt:List Pa}
structure RP (lv:Nat->Int) (t:Nat) (rl:List Int) (ix:Nat->Nat):Prop where
 up:∀a b,a<b->b<rl.length->rl.getD a 0<rl.getD b 0
 z:rl≠[]->rl.getD 0 0=0
 ix:∀j,j<t->ix j<rl.length/\rl.getD (ix j) 0=lv j
 e0:t=0->rl= []
 ne:0<t->rl≠[]/\rl.getD (rl.length - 1) 0=lv (t - 1)
def xv (rl:List Int) (v:Int):List Int:=if rl= [] then (if 0<v then [0,v] else [v]) else if rl.getD (rl.length - 1) 0≠v then rl++ [v] else rl
theorem No {lv:Nat->Int} {t:Nat} {rl:List Int} {ix:Nat->Nat} (h:RP lv t rl ix) (h0:0<=lv t) (hm:0<t->lv (t - 1)<=lv t):
 RP lv (t+1) (xv rl (lv t)) (λj=>if j=t then (xv rl (lv t)).length - 1 else ix j):=by
 have key:∀I:List Int,(∃e,I=rl++e)->(∀a b,a<b->b<I.length->I.getD a 0<I.getD b 0)->(I.getD 0 0=0)->I≠[]->I.getD (I.length - 1) 0=lv t->
  RP lv (t+1) I (λj=>if j=t then I.length - 1 else ix j):=by
  rintro I ⟨e,rfl⟩ h1 h2 Z Y;have hl:0< (rl++e).length:=Vb.2 Z;refine ⟨h1,λ_=>h2,λj hj=>?_,λe=>by omega,λ_=>⟨Z,by simpa using Y⟩⟩;by_cases X:j=t
  . subst X;show (if j=j then _ else _)<_/\_;rw [if_pos rfl];exact ⟨by omega,Y⟩
  . show (if j=t then _ else _)<_/\_;rw [if_neg X];obtain ⟨a,b⟩:=h.ix j (by omega);refine ⟨by rw [UH];omega,?_⟩;rw [<- b];simp only [y6];rw [UT a]
 unfold xv;by_cases e:rl= []
 . subst e;rw [if_pos rfl];by_cases hv:0<lv t
   . rw [if_pos hv];refine key _ ⟨_,rfl⟩ (λa b J hb=>?_) rfl (by simp) rfl;have hb:b<2:=hb;have:a=0/\b=1:=by omega
     obtain ⟨rfl,rfl⟩:=this;exact hv
   . rw [if_neg hv];refine key _ ⟨_,rfl⟩ (λa b J hb=>?_) ?_ (by simp) rfl
     . have hb:b<1:=hb;omega
     . show lv t=0;omega
 . rw [if_neg e];have ht:0<t:=by
    rcases UZ t with Q|Q
    . exact absurd (h.e0 Q) e
    . exact Q
   obtain ⟨_,V⟩:=h.ne ht;have hlen:0<rl.length:=Vb.2 e;by_cases O:rl.getD (rl.length - 1) 0≠lv t
   . rw [if_pos O];have U:∀a,a<rl.length->(rl++ [lv t]).getD a 0=rl.getD a 0:=λa ha=>by simp only [y6];rw [UT ha]
     have gn:(rl++ [lv t]).getD rl.length 0=lv t:=by simp [List.getD]
     refine key _ ⟨_,rfl⟩ (λa b J hb=>?_) (by rw [U 0 hlen];exact h.z e) (by simp) (by rw [UH];exact gn);rw [UH,Va] at hb;by_cases Q:b=rl.length
     . subst Q;rw [gn,U a J];have hm:=hm ht;by_cases e3:a=rl.length - 1
       . rw [e3];omega
       . have:=h.up a (rl.length - 1) (by omega) (by omega);omega
     . rw [U a (by omega),U b (by omega)];exact h.up a b J (by omega)
   . rw [if_neg O];have O:rl.getD (rl.length - 1) 0=lv t:=by simpa using O
     exact key _ ⟨[],by simp⟩ h.up (h.z e) e O
structure tJ (s:aI) (tr:List As) (rl:List Int):Prop where
 len:tr.length<=s.vars
 mem:∀i,i<tr.length->(aX tr i).lit∈s.R .tr
 rs:∀i,i<tr.length->(aX tr i).rs= []\/∃k,s.aO k/\(aX tr i).rs=s.R (.a k)
 bI:∀i,i<tr.length->0<=(aX tr i).bI/\(aX tr i).bI<rl.length/\rl.getD (aX tr i).bI.toNat 0=s.bI (aX tr i).lit
 up:∀a b,a<b->b<rl.length->rl.getD a 0<rl.getD b 0
 z:rl≠[]->rl.getD 0 0=0
theorem LR (g:aN s) {I:List Int} (h:I.Sublist (s.R .tr)):∀a b,a<=b->b<I.length->s.bI (I.getD a 0)<=s.bI (I.getD b 0):=by
 have key:(s.R .tr).Pairwise λy z=>s.bI y<=s.bI z:=by
  rw [U2];intro i j hi Q U;have h1:=g.lv i hi;have O:=g.lv j Q;have Y:(s.R .tr).getD i 0=(s.R .tr)[i]:=by simp [List.getD,hi]
  have V:(s.R .tr).getD j 0=(s.R .tr)[j]:=by simp [List.getD,Q]
  rw [Y] at h1;rw [V] at O;rw [h1,O];have:=Xa (p:=λe:Int=>decide (e<=(i:Int))) (q:=λe:Int=>decide (e<=(j:Int))) (l:=s.R .be) λe _ he=>by simp at he ⊢;omega
  omega
 have J:=key.sublist h;rw [U2] at J;intro a b X hb;by_cases e:a=b
 . rw [e];exact U3 _
 . have:=J a b (by omega) hb (by omega);simpa [List.getD,hb,show a<I.length by omega] using this
def RV (pt:List Pa) (j:Nat):Int:=(pt.getD j uX).bI
structure Uv (pt m:List Pa) (t:Nat) (ix:Nat->Nat):Prop where
 len:m.length=pt.length
 vY:∀j,t<=j->m.getD j uX=pt.getD j uX
 new:∀j,j<t->m.getD j uX= {pt.getD j uX with bI:=ix j}
theorem Jg (g:aN s) (cn:CN w w25 n1 n3 n5 n8 n10 n13 n18) (h:FY w w25 B n1 n3 n5 n8 n10 n13 n18 s q pt dA u) (hL:w25.heap.size<=u.heap.size) (hN:s.vars<=1000) (eA:(pt.map (·.lit)).Sublist (s.R .tr).reverse) {d:Nat} (hd:u.heap[d]? =some (.deferred (some []))) (hx:w25.heap.size<=d) {K:Value->World->Prop}
 (hk:∀u' (tp:sn) (tc:Nat) (rp:sn) (rc:Nat) (tr:List As) (rl:List Int),tJ s tr rl->Le.TV u' tp tr->Vw sT u' rp rl->ak w u'->tr.length<=tc->K (.tuple #[.slice tp tr.length tc,.slice rp rl.length rc]) u'):
 ∃ep en ei,u.cell? (qw n18)=some (.slice ep en ei)/\
  Calls prog 194 #[.slice ep en ei] u λe av=>e=.returned (.tuple #[])/\
  ∃eH b6 fu,av.cell? (qw n18)=some (.slice eH b6 fu)/\
  ∃fa:sn->Nat->Nat->Int->World->Nat->Prop,(∃d8,fa none 0 0 0 av d8)/\
  ∀ (J:sn) (I:Nat) (O:Nat) (dc:Int) (az:World) (d8:Nat) (_:Fr),fa J I O dc az d8->
  aF (decide (dc< (b6:Int)))
   (aW eH b6 dc 3 λfA=>
     ∃eF eg c2 dd co,aK az fA 0 [.i eF,.i eg,.slice c2 dd co]/\
     ∀n105 c0,jI (.cells #[.i 0,.i 0,.slice none 0 0] 221) az n105 c0->
     ∃Q,bB (qw n105) 0 [.i eF,.i eg,.slice c2 dd co] c0 Q/\
     ∃a_:sn->Nat->Nat->World->Prop,(∃b9:Bool->World->Prop,(aF ((I:Int)==(0:Int))
     (b9 true Q.drew)
     (aW J I (IntKind.i64.wrap ((I:Int) - (1:Int))) 1 λf0=>
     ∃et,Q.drew.cell? f0=some (.i et)/\
     ∃eu,Q.drew.cell? ((qw n105).add 1)=some (.i eu)/\
     b9 (et !=eu) Q.drew))/\
     ∀ (eN:Bool) (aa:World) (_:Fr),b9 eN aa->
     aF eN
     (aF ((I:Int)==(0:Int))
       (∃er,aa.cell? ((qw n105).add 1)=some (.i er)/\
       aF (decide (er> (0:Int)))
       (∀n116 a6,jI (.cells #[.i 0] 3) aa n116 a6->
         ∃aw ar ac an,(Builtin.append_ #[25,25] 25 #[.slice J I O,.slice (some (qw n116)) 1 1]).run prog a6=.ok (.slice ar ac an) aw/\
         ∃es,aw.cell? ((qw n105).add 1)=some (.i es)/\
         ∀n121 bk,jI (.cells #[.i es] 3) aw n121 bk->
         ∃el dT cp dk,(Builtin.append_ #[25,25] 25 #[.slice ar ac an,.slice (some (qw n121)) 1 1]).run prog bk=.ok (.slice dT cp dk) el/\
         a_ dT cp dk el)
       (∃eT,aa.cell? ((qw n105).add 1)=some (.i eT)/\
         ∀n126 bn,jI (.cells #[.i eT] 3) aa n126 bn->
         ∃ek b_ b7 c3,(Builtin.append_ #[25,25] 25 #[.slice J I O,.slice (some (qw n126)) 1 1]).run prog bn=.ok (.slice b_ b7 c3) ek/\
         a_ b_ b7 c3 ek))
       (∃eK,aa.cell? ((qw n105).add 1)=some (.i eK)/\
       ∀n131 bv,jI (.cells #[.i eK] 3) aa n131 bv->
       ∃ed b5 d4 dq,(Builtin.append_ #[25,25] 25 #[.slice J I O,.slice (some (qw n131)) 1 1]).run prog bv=.ok (.slice b5 d4 dq) ed/\
       a_ b5 d4 dq ed))
     (a_ J I O aa))/\
     ∀ (Z:sn) (X:Nat) (Y:Nat) (cT:World) (_:Fr),a_ Z X Y cT->
     ∃du d5 e8,cT.cell? (qw n18)=some (.slice du d5 e8)/\
     aW du d5 dc 3 λa138=>
     ∃b',bB (a138.add 1) 0 [.i (IntKind.i64.wrap ((X:Int) - (1:Int)))] cT b'/\
     ∃fs,fs<d8/\fa Z X Y (IntKind.i64.wrap (dc+ (1:Int))) b' fs)
   (∃cm dh dp,az.cell? (qw n18)=some (.slice cm dh dp)/\
     az.heap[d]? =some (.deferred (some []))/\∀ax,Go.Fw.aD (·=d) az ax->K (.tuple #[.slice cm dh dp,.slice J I O]) ax):=by
 have e5:=eA.length_le;rw [UL,List.length_reverse] at e5;have h7:=g.Ck;have gw:d<u.heap.size:=(VA.1 hd).1;have e2:aG q.p≠some d:=λe=>by have:=wP h.r d e _ hd;cases this
 obtain ⟨ca,cb,cc,cd,ce,cf,cg,hB⟩:=cn;refine ⟨_,_,_,aV h.ux rfl,(Hb h.r h.qn (by omega)).mono ?_⟩;rintro e av ⟨rfl,d9,b3⟩;obtain ⟨U,d'⟩: ∃U,U=pt.reverse:=⟨_,rfl⟩
 rw [<- d'] at d9;have gp:U.length=pt.length:=by rw [d'];simp
 have c1: ¬aG q.p=some n18:=λe=>by have:=h.rf _ e;omega
 have f1:(U.map (·.lit)).Sublist (s.R .tr):=by
  have:=eA.reverse;rw [List.reverse_reverse,<- List.map_reverse] at this;rw [d'];exact this
 have aT:∀j,j<U.length->U.getD j uX∈pt:=λj hj=>by
  have:U.getD j uX∈U:=by simp [List.getD,hj]
  rw [d'] at this ⊢;exact X9.1 this
 have e4:=LR g f1;have ez:∀j,j<U.length->(U.map (·.lit)).getD j 0=(U.getD j uX).lit:=λj hj=>by simp [List.getD,hj]
 have bx:∀j,j<U.length->RV U j=s.bI (U.getD j uX).lit:=λj hj=> (h.pa _ (aT j hj)).bI;have gv:∀j,0<j->j<U.length->RV U (j - 1)<=RV U j:=λj h0 hj=>by
  rw [bx j hj,bx (j - 1) (by omega),<- ez j hj,<- ez (j - 1) (by omega)];exact e4 _ _ (by omega) (by simpa using hj)
 have gn:∀j,j<U.length->0<=RV U j:=λj hj=>by
  rw [bx j hj];exact (qo g (h.pa _ (aT j hj)).mem).1
 refine ⟨rfl,_,_,_,aV (h.ux.keep b3 c1) rfl,?_⟩;have hX:=b3.size;refine ⟨λP Nn C V v z=>∃ (t:Nat) (rl:List Int) (ix:Nat->Nat) (m:List Pa),V=t/\t<=U.length/\z=U.length - t/\Nn=rl.length/\rl.length<=t+1/\RP (RV U) t rl ix/\Uv U m t ix/\dz aq v P C rl/\(∀b,aG P=some b->av.heap.size<=b)/\Row 3 IZ cE v q.p q.c m/\aD (λb=>aG q.p=some b) av v,
  ⟨_,0,[],λ_=>0,U,rfl,vx _,rfl,rfl,by simp,⟨λa b _ hb=>by simp at hb,λe=>absurd rfl e,λj hj=>by omega,λ_=>rfl,λe=>by omega⟩,⟨rfl,λ_ _=>rfl,λj hj=>by omega⟩,Ow.nil _ _ _,λb hb=>by simp [aG] at hb,d9,aD.refl _⟩,?_⟩
 rintro P Nn C V v z _ ⟨t,rl,ix,m,rfl,ht,rfl,rfl,g9,ec,hT,hO,bi,hR,hM⟩;have fT:bT v n18 #[q.v]:=(h.ux.keep b3 c1).keep hM c1;have sv:=hM.size;have h6:q.n=U.length:=by rw [h.qn,gp]
 refine ah (λr=>?_) (λr=>?_)
 . have r:t<U.length:=by simp at r;omega
   have e7:=hT.len;refine (hR.vr Af).ix uX (by omega) (by omega) (by omega) λa ha=>⟨_,_,_,_,_,ha,?_⟩
   intro n105 c0 c7;rw [tn,hT.vY t (y4 _)];obtain ⟨A,hA⟩: ∃A,U.getD t uX=A:=⟨_,rfl⟩
   rw [hA];have e':RV U t=A.bI:=by unfold RV;rw [hA]
   have g4:=c7.num;refine bD c7.has rfl rfl λQ fv fo=>?_;have bc:ak v Q:=c7.mod.cW fo (by omega);have gT:=bc.size;have ag:bT Q.drew n105 #[.i A.lit,.i A.bI,A.sl.v]:=fv;have a8:dz aq Q.drew P C rl:=hO.grow (bc.trans (aD.refl Q).drew);refine ⟨λP' N' C' z'=>∃ap,ap=xv rl A.bI/\N'=ap.length/\ap.length<=t+2/\dz aq z' P' C' ap/\(∀b,aG P'=some b->av.heap.size<=b)/\Row 3 IZ cE z' q.p q.c m/\aD (λb=>aG P=some b) Q.drew z',⟨λbb z'=>z'=Q.drew/\(bb=true↔rl= []\/rl.getD (rl.length - 1) 0≠A.bI),?_,?_⟩,?_⟩
   . refine ah (λr2=>⟨rfl,?_⟩) (λr2=>?_)
     . have:rl= []:=UF (by simpa using r2);simp [this]
     . have d6:rl≠[]:=λe=>by rw [e] at r2;simp at r2
       have g3:0<rl.length:=Vb.2 d6;have ew:IntKind.i64.wrap ((rl.length:Int) - 1)=((rl.length - 1:Nat):Int):=by rw [aA (by omega) (by omega)];omega
       rw [ew];refine a8.ix 0 (by omega) rfl (by omega) λa2 gS=>⟨_,gS,_,ae ag rfl,rfl,?_⟩
       rw [tn];simp [d6]
   . rintro bb z' _ ⟨rfl,fP⟩;have mA:∀ {z2:World} {P2:sn} {C2:Nat} {rl2:List Int} {nb:Nat} (y:Int),dz aq z2 P2 C2 rl2->rl2.length<=1001->bT z2 nb #[.i y]->av.heap.size<=z2.heap.size->(∀b,aG P2=some b->av.heap.size<=b)->Row 3 IZ cE z2 q.p q.c m->∀ {KK:World->sn->Nat->Nat->Prop},
      (∀z3 P3 C3,dz aq z3 P3 C3 (rl2++ [y])->(∀b,aG P3=some b->av.heap.size<=b)->Row 3 IZ cE z3 q.p q.c m->aD (λb=>aG P2=some b) z2 z3->(P3=P2\/P3=some ⟨z2.heap.size,0,none⟩)->KK z3 P3 (rl2.length+1) C3)->
      ∃aw ar ac an,(Builtin.append_ #[25,25] 25 #[.slice P2 rl2.length C2,.slice (some (qw nb)) 1 1]).run prog z2=.ok (.slice ar ac an) aw/\KK aw ar ac an:=by
      intro z2 P2 C2 rl2 nb y o2 h3 gA hY ga gx KK kk;refine Ow.lP xX o2 y gA rfl rfl fz (by omega) λz3 P3 C3 o3 m3 bY hV=>kk z3 P3 C3 o3 (λb hb=>?_) (gx.keep m3 λb hb e=>?_) m3 bY
      . rcases bY with rfl|rfl
        . exact ga b hb
        . have:z2.heap.size=b:=by simpa [aG] using hb
          omega
      . have:=ga b e;have:=d9.lt b hb;omega
     have eb:Row 3 IZ cE Q.drew q.p q.c m:=hR.grow (bc.trans (aD.refl Q).drew);have sd:Q.drew.heap.size=Q.heap.size:=rfl;refine ah (λr3=>?_) (λr3=>?_)
     . have r3:=fP.1 r3;refine ah (λr4=>?_) (λr4=>?_)
       . have e0:rl= []:=UF (by simpa using r4);subst e0;refine ⟨_,ae ag rfl,ah (λr5=>?_) (λr5=>?_)⟩
         . have r5:0<A.bI:=by simpa using r5
           intro n116 a6 ay;have g':=ay.mod.size;refine mA (z2:=a6) (rl2:= []) 0 (a8.grow ay.mod) (by simp) ay.has (by omega) bi (eb.grow ay.mod) λz3 P3 C3 o3 f3 r3 m3 bY=>?_;have fb: ¬aG P=some n105:=λe=>by have:=hO.lt n105 e;omega
           have H3:bT z3 n105 _:=(ag.grow ay.mod).keep m3 fb;refine ⟨_,ae H3 rfl,λn121 bk a'=>?_⟩;have g8:=a'.mod.size;have s3:=m3.size;refine mA (z2:=bk) (rl2:= []++ [0]) A.bI (o3.grow a'.mod) (by simp) a'.has (by omega) f3 (r3.grow a'.mod) λz4 P4 C4 o4 f4 r4 m4 hQ=>?_;refine ⟨[0,A.bI],by unfold xv;rw [if_pos rfl,if_pos r5],rfl,by simp,o4,f4,r4,?_⟩;refine ((aD.then (S:=λb=>aG P=some b) (ay.mod.mono λ_ _ e=>e.elim) m3 λb _ e=>e).grow a'.mod).then m4 λb hb e=>?_;rcases bY with e3|e3
           . rw [e3] at e;exact e
           . rw [e3] at e;have:a6.heap.size=b:=by simpa [aG] using e
             omega
         . have r5: ¬0<A.bI:=by simpa using r5
           refine ⟨_,ae ag rfl,λn126 bn a7=>?_⟩;have hy:=a7.mod.size;refine mA (z2:=bn) (rl2:= []) A.bI (a8.grow a7.mod) (by simp) a7.has (by omega) bi (eb.grow a7.mod) λz3 P3 C3 o3 f3 r3 m3 bY=>?_;exact ⟨[A.bI],by unfold xv;rw [if_pos rfl,if_neg r5],rfl,by simp,o3,f3,r3,aD.then (S:=λb=>aG P=some b) (a7.mod.mono λ_ _ e=>e.elim) m3 λb _ e=>e⟩
       . have d6:rl≠[]:=λe=>by rw [e] at r4;simp at r4
         refine ⟨_,ae ag rfl,λn131 bv bf=>?_⟩;have hw:=bf.mod.size;refine mA (z2:=bv) (rl2:=rl) A.bI (a8.grow bf.mod) (by omega) bf.has (by omega) bi (eb.grow bf.mod) λz3 P3 C3 o3 f3 gP m3 bY=>?_;refine ⟨rl++ [A.bI],?_,by simp,by simp;omega,o3,f3,gP,aD.then (S:=λb=>aG P=some b) (bf.mod.mono λ_ _ e=>e.elim) m3 λb _ e=>e⟩;unfold xv;rw [if_neg d6,if_pos (r3.resolve_left d6)]
     . have r3: ¬(rl= []\/rl.getD (rl.length - 1) 0≠A.bI):=λe=>by have:=fP.2 e;rw [this] at r3;cases r3
       refine ⟨rl,?_,rfl,by omega,a8,bi,eb,(aD.refl _).mono λ_ _ e=>e⟩;unfold xv;rw [if_neg λe=>r3 (.inl e),if_neg λe=>r3 (.inr e)]
   . rintro P' N' C' z' _ ⟨ap,fL,rfl,gs,o',f',R',M'⟩;have sp:=No ec (by rw [e',<- e'];exact gn t r) λh0=>gv t h0 r;rw [e',<- fL] at sp;have gV:0<ap.length:=Vb.2 (sp.ne (by omega)).1;have fk: ¬aG P=some n18:=λe=>by have:=bi _ e;omega
     have fm:bT z' n18 #[q.v]:=((fT.grow bc).drew).keep M' fk;refine ⟨_,_,_,aV fm rfl,?_⟩;have ew:IntKind.i64.wrap ((ap.length:Int) - 1)=((ap.length - 1:Nat):Int):=by rw [aA (by omega) (by omega)];omega
     rw [ew];refine R'.Um Af uX {A with bI:=((ap.length - 1:Nat):Int)} (o:=1) ?_ (by omega) rfl (by omega) (by omega) (by omega) λb' ef ey=>?_
     . rw [tn,hT.vY t (y4 _),hA];rfl
     . rw [tn] at ef;have fl:∀b,aG P'=some b->¬aG q.p=some b:=λb hb e=>by have:=f' b hb;have:=d9.lt b e;omega
       refine ⟨_,?_,t+1,ap,_,m.set t {A with bI:=((ap.length - 1:Nat):Int)},wN,by omega,rfl,rfl,by omega,sp,⟨by rw [VT];exact e7,λj hj=>?_,λj hj=>?_⟩,o'.keep ey fl,f',ef,?_⟩
       . omega
       . rw [tu (by omega),if_neg (by omega)];exact hT.vY j (by omega)
       . rw [tu (by omega)];by_cases ej:j=t
         . subst ej;rw [if_pos rfl,if_pos rfl,hA]
         . rw [if_neg ej,if_neg ej];exact hT.new j (by omega)
       . refine ((hM.grow (bc.trans (aD.refl Q).drew)).then M' λb hb e=>?_).then ey λb _ e=>e;have:=bi b e;omega
 . have r:t=U.length:=by simp at r;omega
   subst r;refine ⟨_,_,_,aV fT rfl,?_,λax bu=>?_⟩
   . rw [hM.block d (by omega) e2,b3.block d gw e2];exact hd
   have e7:=hT.len;obtain ⟨tr,fq⟩: ∃tr:List As,tr=m.map λa=>⟨a.lit,a.bI,a.rs⟩:=⟨_,rfl⟩
   have hU:tr.length=U.length:=by rw [fq];simp [e7]
   have nt:∀i,i<U.length->aX tr i=⟨(U.getD i uX).lit,ix i,(U.getD i uX).rs⟩:=λi hi=>by
    have:aX tr i=⟨(m.getD i uX).lit,(m.getD i uX).bI,(m.getD i uX).rs⟩:=by
     rw [fq];simp [aX,List.getD,show i<m.length by omega]
    rw [this,hT.new i hi]
   have e1:q.n=tr.length:=by omega
   have Gu:ak w ax:=by
    have h1:ak w av:=h.g.then b3 λb hb e=>by have:=h.rf b e;omega
    have h2:ak w v:=h1.then hM λb hb e=>by have:=h.rf b e;omega
    exact h2.then bu λb hb (e:b=d)=>by omega
   have gk:∀b,aG q.p=some b->¬b=d:=λb hb e=>e2 (by rw [<- e];exact hb);show K (.tuple #[.slice q.p q.n q.c,.slice P rl.length C]) ax;rw [e1];have fy:=(hR.keep bu gk).vr Af;refine hk ax q.p q.c P C tr rl ⟨by omega,λi hi=>?_,λi hi=>?_,λi hi=>?_,ec.up,ec.z⟩ (λi hi=>?_) ((hO.keep bu λb hb (e:b=d)=>?_).vw) Gu (by have:=hR.cap;omega)
   . rw [nt i (by omega)];exact (h.pa _ (aT i (by omega))).mem
   . rw [nt i (by omega)];exact (h.pa _ (aT i (by omega))).rs
   . rw [nt i (by omega)];obtain ⟨a,b⟩:=ec.ix i (by omega);refine ⟨by show (0:Int)<=(ix i:Int);omega,by show (ix i:Int)<_;omega,?_⟩;show rl.getD ((ix i:Int)).toNat 0=_;rw [tn,b,bx i (by omega)]
   . obtain ⟨a,ea,hc⟩:=fy i (by omega);have b8:=h.pm _ (aT i (by omega));obtain ⟨d2,o2⟩:=b8.o;have em:m[i]'(by omega)= {U.getD i uX with bI:=ix i}:=by
      rw [<- hT.new i (by omega)];simp [List.getD,show i<m.length by omega]
     rw [em] at hc;rw [nt i (by omega)];have fj:=o2.cap;refine ⟨a,(U.getD i uX).sl,ea,hc,b8.n,by rw [b8.n];exact fj,?_⟩;refine (((o2.keep b3 λb hb e=> (b8.f b hb).2 e).keep hM λb hb e=> (b8.f b hb).2 e).keep bu λb hb (e:b=d)=>?_).vw;subst e;have:=EW o2 b hb _ hd;cases this
   . subst e;have:=bi b hb;omega
end
section
variable {w0 w w' w1 w2:World} {B N:Nat} {L L':Nat->Nat} {x:Xs} {l:List Int}
theorem QZ (I:List Int):(GP I I.length).map (·.2)=I.reverse:=by
 refine VH (by simp [GP]) λi h1 J=>?_;have hi:i<I.length:=by simpa [GP] using h1
 rw [List.getElem_reverse];simp [GP,Ty,show I.length - 1 - i<I.length by omega]
theorem EU:gH prog 189=true:=by kernel_rfl
theorem Ry:gH prog 211=true:=by kernel_rfl
theorem LF (a b c d:Value):(#[]++ #[a]++ #[b,c,d]:Array Value)= #[a,b,c,d]:=by simp
theorem OD (h:SR w0 w B L N x) (g:aN x.s) (hv:x.s.vars=N) (hN:N<=1000) {p:sn} {n c:Nat} {bk:List Int} (vb:Vw sT w p bk) (hn:n=bk.length) (hl:bk.length<=4096) (ew:∀y∈bk,dN N y):
 Calls prog cD.id #[ck B,.slice p n c] w λe w'=>∃ (tp:sn) (tc:Nat) (rp:sn) (rc:Nat) (tr:List As) (rl:List Int),e=.returned (.tuple #[.slice tp tr.length tc,.slice rp rl.length rc])/\
  tJ x.s tr rl/\Le.TV w' tp tr/\Vw sT w' rp rl/\ak w w'/\tr.length<=tc:=by
 refine cD.aj ?_;have ez:=g.Ck;intro n1 w2 h1 n3 w4 h3 n5 w6 h5;have e1:=h1.num;have e3:=h3.num;have e5:=h5.num;have l1:=h1.has.lt;have l5:=h5.has.lt;have M3:Gd w4 n3 0 λ_=>false:=MB.new h3;have l3:=M3.lt;refine bD h5.has rfl rfl λw7 H7 m7=>?_;intro n8 w9 h8 n10 fo lU;have e8:=h8.num;have g9:=lU.num;have s7:=m7.size;have M8:Gd w9 n8 0 λ_=>false:=MB.new h8;have l8:=M8.lt;have fi:=lU.has.lt;refine bD lU.has rfl rfl λcg b6 ap=>?_;intro n13 g1 pO;have fs:=pO.num;have hg:=ap.size;have fv:=pO.has.lt;refine bD pO.has rfl rfl λY ey X=>?_;have ga:=X.size;have z2:=h1.mod.size;have z4:=h3.mod.size;have z6:=h5.mod.size;have z9:=h8.mod.size;have gS:=lU.mod.size;have hw:=pO.mod.size;have H7:bT w7 n5 #[.map (some n3)]:=H7;have b6:bT cg n10 #[.map (some n8)]:=b6;have A1:bT Y n1 #[ck B]:=((((((h1.has.grow (h3.mod.trans h5.mod)).put m7 (by omega)).grow (h8.mod.trans lU.mod)).put ap (by omega)).grow pO.mod).put X (by omega))
 have A5:bT Y n5 #[.map (some n3)]:=(((H7.grow (h8.mod.trans lU.mod)).put ap (by omega)).grow pO.mod).put X (by omega);have c2:bT Y n10 #[.map (some n8)]:=(b6.grow pO.mod).put X (by omega);have A3:Gd Y n3 0 _:=(((((M3.grow h5.mod).F6 m7 (by omega)).grow (h8.mod.trans lU.mod)).F6 ap (by omega)).grow pO.mod).F6 X (by omega);have A8:Gd Y n8 0 _:=((((M8.grow lU.mod).F6 ap (by omega)).grow pO.mod).F6 X (by omega))
 have G7:ak w w7:=aD.cW ((h1.mod.trans h3.mod).trans h5.mod) m7 (by omega);have ef:ak w cg:=aD.cW ((G7.trans h8.mod).trans lU.mod) ap (by omega);have bu:ak w Y:=aD.cW (ef.trans pO.mod) X (by omega);have c3:bT Y n13 #[.func (.func 189) #[] #[.pointer (some ⟨n5,0,none⟩),.pointer (some ⟨n10,0,none⟩),.pointer (some ⟨n1,0,none⟩)]]:=ey;refine ⟨_,_,aV c3 rfl,?_⟩;rw [EU];refine bP rfl ?_;rw [LF];refine (DX h g hv hN bu A1 A5 c2 A3 A8 ⟨by omega,by omega,by omega,by omega,by omega,by omega,by omega⟩ (by omega) (by omega) (vb.grow bu) hn hl ew (by omega) (by omega) λeF b hb=>by have:=vb.lt eF b hb;omega).mono ?_;rintro e ep ⟨rfl,fl,gk,B3,B8,aa⟩;refine ⟨rfl,λn18 gx ux=>?_⟩;have fP:=ux.num;have gw:=aa.size;have fm:=ux.has.lt;have Z:∀k,k≠n3->k≠n8->¬(k=n3\/k=n8):=λk a b e=>e.elim a b;have es:ak w ep:=bu.then aa λb hb e=>by rcases e with e|e<;>omega
 have cc:=es.trans ux.mod;have B1:=(A1.keep aa (Z _ (by omega) (by omega))).grow ux.mod;have B5:=(A5.keep aa (Z _ (by omega) (by omega))).grow ux.mod;have ek:=(c2.keep aa (Z _ (by omega) (by omega))).grow ux.mod;have ej:=(c3.keep aa (Z _ (by omega) (by omega))).grow ux.mod;have ce:=h.grow cc;obtain ⟨fy,d7,_⟩:=ce.pm id;refine ⟨_,aV B1 rfl,_,rfl,_,ae ce.at rfl,(Ao d7 (by omega)).mono ?_⟩;rintro e gA ⟨qb,db,rfl,ob,c1,fb⟩;obtain ⟨zs,a8⟩: ∃zs,zs=x.s.R .tr:=⟨_,rfl⟩
 rw [<- a8] at ob ez;refine ⟨_,_,_,rfl,ic.aj ?_⟩;intro n24 w25 V;have g0:=V.num;have gd:=c1.size;have z25:=V.mod.size;have cT:=V.has.lt;have Q:=c1.trans V.mod;refine ⟨_,_,rfl,Ry,trivial,GP zs zs.length,λy=>y.2∈zs,λk=>k=n24\/aG qb=some k,?_,?_,?_⟩
 . exact Mz (by rw [<- a8] at V;exact V.has) (ob.grow V.mod) (by omega)
 . rintro k (rfl|hk)
   . exact cT
   . exact VD (ob.lt k hk) z25
 have fd:(GP zs zs.length).length=zs.length:=HY _ _;have cn:CN w w25 n1 n3 n5 n8 n10 n13 n18:=⟨by omega,by omega,by omega,by omega,by omega,by omega,by omega,by omega⟩
 have C3:=B3.grow (ux.mod.trans Q);have C8:=B8.grow (ux.mod.trans Q);refine ⟨λdA u=>∃q pt,FY w w25 B n1 n3 n5 n8 n10 n13 n18 x.s q pt dA u/\w25.heap.size<=u.heap.size,⟨Sl.nil,[],⟨cc.trans Q,B1.grow Q,B5.grow Q,ek.grow Q,ej.grow Q,⟨_,_,by simp;omega,C3⟩,⟨_,_,by simp;omega,C8⟩,ux.has.grow Q,rfl,Row.nil _ _ _ _,λb hb=>by simp [Sl.nil,aG] at hb,by simp,λa ha=>by simp at ha,λa ha=>by simp at ha⟩,y4 _⟩,?_,?_,?_⟩
 . rintro dA W W' S ⟨q,pt,ci,ac⟩ m hS;refine ⟨q,pt,ci.keep m cn (λr hr=> (hS r hr).1) (λb hb hs=>?_) (λa ha b hb hs=>?_),UY ac m.size⟩
   . have bY:=ci.r.lt b hb;obtain ⟨aw,ho⟩: ∃aw,W.heap[b]? =some aw:=⟨_,Wo bY⟩
     have h1:=wP ci.r b hb _ ho;rw [(hS b hs).2 _ ho] at h1;cases h1
   . obtain ⟨d,o⟩:=(ci.pm a ha).o;have bY:=o.lt b hb;obtain ⟨aw,ho⟩: ∃aw,W.heap[b]? =some aw:=⟨_,Wo bY⟩
     have h1:=EW o b hb _ ho;rw [(hS b hs).2 _ ho] at h1;cases h1
 . rintro dA i y W hlen ar ⟨q,pt,ci,ac⟩;have ar:y∈zs:=ar;have an:y∈x.s.R .tr:=by rw [<- a8];exact ar
   have e9:pt.length<=dA.length:=by have:=ci.sub.length_le;simpa using this
   have d5:=h.grow ci.g;have tl:∀k,(k=n24\/aG qb=some k)->n18<k/\k<w25.heap.size:=by
    rintro k (rfl|hk)
    . have:=ob.lt;exact ⟨by omega,cT⟩
    . have:=fb k hk;have:=ob.lt k hk;omega
   have kb:∀ {u:World},aD (λb=>b=n3\/b=n8\/b=n18\/aG q.p=some b) W u->KB w25.heap.size (λk=>k=n24\/aG qb=some k) W u:=λ{u} m=>by
    refine SX m (λr hr=>?_) (λk hk e=>?_) λk hk=>VD (tl k hk).2 ac
    . rcases hr with rfl|rfl|rfl|hr
      . exact .inl (by omega)
      . exact .inl (by omega)
      . exact .inl (by omega)
      . exact .inr (wP ci.r r hr)
    . have:=tl k hk;rcases e with rfl|rfl|rfl|e
      . omega
      . omega
      . omega
      . have:=ci.rf k e;omega
   have er:x.s.fE y=x.s.m_ y:=B2 g an;have el:x.s.nS y=x.s.bI y:=NA g an;have e2:=qo g an;have e4:=g.P_;have eN:=g.Ck;refine ⟨_,aV ci.h1 rfl,_,rfl,_,ae d5.at rfl,(d5.fE g y).mono ?_⟩;rintro e hx ⟨rfl,dk⟩;have a7:=ci.grow dk cn;refine ⟨_,rfl,_,aV a7.h1 rfl,_,rfl,_,ae (h.grow a7.g).at rfl,((h.grow a7.g).nS g y).mono ?_⟩;rintro e dq ⟨rfl,dT⟩;have a':=a7.grow dT cn;refine ⟨_,rfl,?_⟩;rw [er,el];obtain ⟨k8,f8,b8,N8⟩:=a'.m8;obtain ⟨k3,f3,b3,N3⟩:=a'.m3;have a6:=dk.trans dT;refine ⟨λ_ u=>u=dq,?_,?_⟩
   . refine ah (λ_=>⟨_,aV a'.lU rfl,dq,_,N8.cP ti (A9 (by omega) (by omega)),rfl⟩) (λ_=>rfl)
   rintro vP J _ rfl;have du:=g.tv y an;have c7:=du.bd (by omega);have fj:=du.bh;have d6:=a'.grow (aD.refl J).drew cn;refine ⟨λu=>u=J.drew,?_,?_⟩
   . refine ⟨λu=>u=J.drew,rfl,_,fF (aV d6.h5 rfl),pe.aj ⟨_,rfl,rfl,?_⟩⟩;rw [Ax c7.1 c7.2];have ec:Gd J.drew n3 k3 f3:=N3.grow (aD.refl J).drew;refine ⟨J.drew,_,ec.cP ti (A9 (by omega) (by omega)),?_⟩;have skip:KB w25.heap.size (λk=>k=n24\/aG qb=some k) W J.drew/\∃q pt,FY w w25 B n1 n3 n5 n8 n10 n13 n18 x.s q pt (dA++ [(i,y)]) J.drew/\w25.heap.size<=J.drew.heap.size:=
      ⟨kb ((a6.trans (aD.refl J).drew).mono λ_ _ e=>e.elim),q,pt,d6.next _,UY ac (a6.trans (aD.refl J).drew).size⟩
     exact ah (λ_=>ah (λ_=>skip) (λ_=>rfl)) (λ_=>rfl)
   rintro g3 _ rfl;intro bb gV a_;have gn:=a_.num;have zW:=(a6.trans (aD.refl J).drew).size;have g':=a_.mod.size;refine bD a_.has rfl rfl λbn av d4=>?_;have g5:=d4.size;have az:ak W bn:=aD.cW ((a6.trans (aD.refl J).drew).trans a_.mod) d4 (by omega);have ag:=ci.grow az cn;have av:bT bn bb #[.i y,.i (x.s.bI y),.slice none 0 0]:=av;refine ah (λr=>?_) (λr=>?_)
   . refine ⟨_,aV ag.h1 rfl,_,rfl,_,ae (h.grow ag.g).at rfl,((h.grow ag.g).Lx g _).mono ?_⟩;rintro e gW ⟨qc,dc,rfl,oc,b_,fc⟩;refine ⟨_,_,_,_,rfl,?_⟩;obtain ⟨rs,ay⟩: ∃rs,rs=(if x.s.is (x.s.m_ y) then x.s.R (.a (x.s.m_ y).toNat) else []):=⟨_,rfl⟩
     rw [<- ay] at oc ⊢;have ax:rs= []\/∃i,x.s.aO i/\rs=x.s.R (.a i):=by
      cases hi:x.s.is (x.s.m_ y) with
      |false=>rw [hi] at ay;exact .inl ay
      |true=>
       rw [hi] at ay;obtain ⟨i0,et⟩:=aI.Da.1 hi;exact .inr ⟨_,et,ay⟩
     have g2:=b_.size;have gT:=av.lt;refine cz (av.grow b_) rfl rfl λbv bc b7=>?_;have gr:=b7.size;have bc:bT bv bb #[.i y,.i (x.s.bI y),.slice qc rs.length dc]:=bc;have dp:ak W bv:=aD.cW (az.trans b_) b7 (by omega);have I:=ci.grow dp cn;refine ⟨_,_,aV I.pO rfl,_,_,_,ae bc rfl,?_⟩;rw [EU];refine bP rfl ?_;rw [LF];obtain ⟨hy,f',fq,P8⟩:=I.m8;obtain ⟨fk,gP,fu,P3⟩:=I.m3;have bf:dz aq bv qc dc rs:=oc.keep b7 λb hb (e:b=bb)=>by have:=fc b hb;omega
     have eg:rs.length<=4096:=by
      rcases ax with e| ⟨i,_,e⟩
      . rw [e];simp
      . rw [e];exact g.al i
     have eA:∀z∈rs,dN N z:=by
      rcases ax with e| ⟨i,ht,e⟩
      . rw [e];simp
      . intro z hz;rw [e] at hz;rw [<- hv];exact g.cv i ht z ((g.ca i ht z).2 hz)
     have zz:=I.g.size;refine (DX h g hv hN I.g I.h1 I.h5 I.lU P3 P8 ⟨by omega,by omega,by omega,by omega,by omega,by omega,by omega⟩ (by omega) (by omega) bf.vw rfl eg eA (by omega) (by omega) λ_ b hb=>by have:=fc b hb;omega).mono ?_;rintro e b' ⟨rfl,t3,t8,Q3,Q8,O⟩;refine ⟨rfl,?_⟩;have g8:=O.size;have U:∀k,k≠n3->k≠n8->¬(k=n3\/k=n8):=λk a b e=>e.elim a b;have ei:FY w w25 B n1 n3 n5 n8 n10 n13 n18 x.s q pt (dA++ [(i,y)]) b':=by
      refine ⟨I.g.then O λb hb e=>by rcases e with e|e<;>omega,I.h1.keep O (U _ (by omega) (by omega)),I.h5.keep O (U _ (by omega) (by omega)),I.lU.keep O (U _ (by omega) (by omega)),I.pO.keep O (U _ (by omega) (by omega)),⟨_,_,by simp;omega,Q3⟩,⟨_,_,by simp;omega,Q8⟩,I.ux.keep O (U _ (by omega) (by omega)),I.qn,I.r.keep O λb hb e=>?_,I.rf,(I.next (i,y)).sub,I.pa,λa ha=>⟨(I.pm a ha).n,?_,(I.pm a ha).f⟩⟩
      . have:=I.rf b hb;rcases e with e|e<;>omega
      . obtain ⟨d,o⟩:=(I.pm a ha).o;exact ⟨d,o.keep O λb hb e=>by have:=((I.pm a ha).f b hb).1;rcases e with e|e<;>omega⟩
     have hm:Se w25 b' q ⟨y,x.s.bI y,⟨qc,rs.length,dc⟩,rs⟩:=by
      refine ⟨rfl,⟨dc,bf.keep O λb hb e=>?_⟩,λb hb=>?_⟩
      . have:=fc b hb;rcases e with e|e<;>omega
      . have:=fc b hb;refine ⟨by omega,λe=>?_⟩;have:=ag.r.lt b e;omega
     have eu:bT b' bb #[.i y,.i (x.s.bI y),.slice qc rs.length dc]:=bc.keep O λe=>by rcases e with e|e<;>omega
     refine BB (i:=i) (a:=⟨y,x.s.bI y,⟨qc,rs.length,dc⟩,rs⟩) ei I.sub cn (by omega) (by omega) eu ⟨an,rfl,ax⟩ hm λu' q' c' mm=>⟨kb ?_,q',_,c',?_⟩
     . exact ((dp.mono λ_ _ e=>e.elim).then O λb _ e=>by rcases e with e|e<;>simp [e]).then mm λb _ e=> .inr (.inr e)
     . have:=mm.size;omega
   . have hm:Se w25 bn q ⟨y,x.s.bI y,Sl.nil,[]⟩:=⟨rfl,⟨0,Ow.nil _ _ _⟩,λb hb=>by simp [Sl.nil,aG] at hb⟩
     refine BB (i:=i) (a:=⟨y,x.s.bI y,Sl.nil,[]⟩) (ag.next (i,y)) ag.sub cn (by omega) (by omega) av ⟨an,rfl,.inl rfl⟩ hm λu' q' c' mm=>⟨kb ?_,q',_,c',?_⟩
     . exact aD.then (S:=λb=>b=n3\/b=n8\/b=n18\/aG q.p=some b) (az.mono λ_ _ e=>e.elim) mm λb _ e=> .inr (.inr e)
     . have:=mm.size;have:=az.size;omega
 . intro d g6 hd hD hI;obtain ⟨q,pt,ci,ac⟩:=hI;have bg:=ci.sub;rw [QZ,a8] at bg;exact Jg (K:=λv w'=>∃ (tp:sn) (tc:Nat) (rp:sn) (rc:Nat) (tr:List As) (rl:List Int),Ending.returned v=.returned (.tuple #[.slice tp tr.length tc,.slice rp rl.length rc])/\tJ x.s tr rl/\Le.TV w' tp tr/\Vw sT w' rp rl/\ak w w'/\tr.length<=tc) g cn ci ac (by omega) bg hD hd λu' tp tc rp rc tr rl cs tv vr gu hc=>⟨tp,tc,rp,rc,tr,rl,rfl,cs,tv,vr,gu,hc⟩
end
end Go.Proofs.YtbdghpjnifjlmaaGreat.W
