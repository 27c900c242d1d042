/- Layer 7: where a proof ends. -/
import Derived.Test.YtbdghpjnifjlmaaGreatPfA
import Derived.Test.YtbdghpjnifjlmaaGreatLitA
import Derived.DeepKeys4
set_option linter.unusedVariables false
namespace Go.Proofs.YtbdghpjnifjlmaaGreat.W
open Go Go.Fw Go.RowKit Go.SoP Go.LiP
section
variable {w w' w0 w2 w3:World} {p q:sn} {n m c d:Nat} {k:Int} {hs ks:List Sl} {cs:List (List Int)} {l:List Int}
noncomputable def uu:List (List Int)->List jb->Int × Int
 |_,[]=> (0,4)
 |cs,s::l=>if jV cs s≠0 then (0,jV cs s) else if s.1=false/\s.2= [] then (0,0) else ((uu (qq cs s) l).1+1,(uu (qq cs s) l).2)
theorem oB {α:Type} {l:List α} {i:Nat} (h:i<l.length) (d:α):l.drop i=l.getD i d::l.drop (i+1):=by
 rw [VN h];simp [List.getD,h]
def AX (cs:List (List Int)) (al:List jb) (i:Nat) (ci:List (List Int)):Prop:=uu cs al=((i:Int)+ (uu ci (al.drop i)).1,(uu ci (al.drop i)).2)
theorem AX.zero (cs:List (List Int)) (al:List jb):AX cs al 0 cs:=by unfold AX;simp
theorem AX.pI {al:List jb} {i:Nat} {ci:List (List Int)} (h:AX cs al i ci) (hi:i<al.length) (he:jV ci (al.getD i cS)≠0):uu cs al=((i:Int),jV ci (al.getD i cS)):=by
 unfold AX at h;rw [h,oB hi cS,uu,if_pos he];simp
theorem AX.dG {al:List jb} {i:Nat} {ci:List (List Int)} (h:AX cs al i ci) (hi:i<al.length) (he:jV ci (al.getD i cS)=0) (h1:(al.getD i cS).1=false/\(al.getD i cS).2= []):uu cs al=((i:Int),0):=by
 unfold AX at h;rw [h,oB hi cS,uu,if_neg (by simpa using he),if_pos h1];simp
theorem AX.next {al:List jb} {i:Nat} {ci:List (List Int)} (h:AX cs al i ci) (hi:i<al.length) (he:jV ci (al.getD i cS)=0) (h1: ¬((al.getD i cS).1=false/\(al.getD i cS).2= [])):AX cs al (i+1) (qq ci (al.getD i cS)):=by
 unfold AX at*
 rw [h,oB hi cS,uu,if_neg (by simpa using he),if_neg h1];congr 1;simp;omega
theorem AX.all {al:List jb} {ci:List (List Int)} (h:AX cs al al.length ci):uu cs al=((al.length:Int),4):=by
 unfold AX at h;rw [h,V6,uu];simp
theorem Bc {al:List jb} (Y:V2 sT w p hs cs) (hn:n=cs.length) (dT:cs.length+m<262144) (hl:SV w q al) (hm:m=al.length):
 Calls Tryz.prog nT.id #[.agg #[.i k,.slice p n d],.slice q m c] w λe w'=>e=.returned (.tuple #[.i (if cQ k cs && fG al then uu cs al else (0,1)).1,.i (if cQ k cs && fG al then uu cs al else (0,1)).2])/\ak w w':=by
 subst hn hm;refine nT.aj ?_;intro n1 w2 h2;have e1:=h2.num;refine ⟨_,_,_,_,bS h2.has,(fS (Y.grow h2.mod) rfl).mono ?_⟩;rintro e w5 ⟨rfl,g5⟩;have G5:=h2.mod.trans g5;refine ⟨_,rfl,?_⟩;cases b':cQ k cs with
 |false=>exact bP rfl ⟨rfl,G5⟩
 |true=>
 refine bA rfl ((j8 (hl.grow G5) rfl (by omega)).mono ?_);rintro e w7 ⟨rfl,g7⟩;have G7:=G5.trans g7;refine ⟨_,rfl,?_⟩;cases b5:fG al with
 |false=>exact bP rfl ⟨rfl,G7⟩
 |true=>
 have Q:∀x∈al,jf x.2=true:=by
  have:=b5;unfold fG at this
  rwa [UK] at this
 refine bA rfl ?_;have gm:∀i,i<al.length->al.getD i cS∈al:=λi hi=>by simp [List.getD,hi]
 have z5:=G5.size;have z7:=g7.size;refine ⟨λP N C I u z=>∃ (i:Nat) (hs:List Sl),I=i/\i<=al.length/\z=al.length - i/\i=N/\hs.length=i/\ak w7 u/\OV sT aE u P C hs ((al.take i).map (·.2))/\(∀j,aG P=some j->w7.heap.size<=j),
  ⟨_,0,[],rfl,vx _,rfl,rfl,rfl,aD.refl _,OV.nil,λj J=>by simp [aG] at J⟩,?_⟩
 rintro P N C I u z _ ⟨i,d7,rfl,hi,rfl,rfl,hlen,gu,o,fP⟩;have Gu:=G7.trans gu;refine ah (λr=>?_) (λr=>?_)
 . have r:i<al.length:=by simpa using r
   refine hl.ix Gu rfl r λa s aa h1 bb h3=>⟨_,_,_,_,aa u Gu,?_⟩
   intro dp dq ac;refine bD ac.has rfl rfl λcm b8 bv=>⟨_,_,_,ae b8 rfl,?_⟩
   have d6:=ac.num;have cp:ak u cm:=ac.mod.then bv λj J e=>by omega
   intro n22 b3 bc;have U:ak u b3:=cp.trans bc.mod;have zu:=gu.size;refine (o.grow U).mA jK (ns:= [⟨s.p,s.n,s.c⟩]) (nrows:= [(al.getD i cS).2]) (q:=some ⟨n22,0,none⟩) (m:=1) (k:=1) (λj J=>by
    have:j=0:=by simpa using J
    subst this;exact ⟨_,rfl,ae bc.has rfl⟩) (VR.bJ (h3.grow (Gu.trans U)) h1 bb) hlen.symm rfl (λj J e=>?_) (by simp;omega) λea P' C' ax b4 ce d5=>?_
   . obtain ⟨x,O,h0,hk⟩:=J;rw [Bs] at O;subst O;have h0:0<s.n:=h0;have:=h3.lt (λe3=>by rw [e3] at h1;simp at h1;omega) j hk;have:=fP j e;omega
   . have eb:=U.size;have c0:(al.take (i+1)).map (·.2)=(al.take i).map (·.2)++ [(al.getD i cS).2]:=by rw [c8 r cS,LV];rfl
     rw [<- c0] at ax;refine ⟨_,?_,i+1,_,wN,r,rfl,by simp [hlen],by simp [hlen],(gu.trans U).then b4 λj J e=>by have:=fP j e;omega,ax,λj J=>?_⟩
     . omega
     . rcases ce with rfl|rfl
       . exact fP j J
       . have:=aL J;omega
 have r:i=al.length:=by simp at r;omega
 subst r;rw [K'] at o;have b1:bT u n1 _:=(h2.has.grow (g5.trans g7)).grow gu;refine ⟨_,_,_,_,bS b1,?_⟩;have hL:=sj b';refine (EI (Y.grow Gu) rfl o.v2 (by simp) (λc Y=>⟨(hL c Y).1,λx O=> ((hL c Y).2 x O).1⟩) (λc Y=>by
  obtain ⟨x,O,rfl⟩:=L0.1 Y;have:=(cy (Q x O)).2;exact ⟨by omega,(cy (Q x O)).1⟩) (by omega) (by simp;omega)).mono ?_
 rintro e d8 ⟨nb,id,rfl,hW,hN⟩;rw [wb λc Y x O=> ((hL c Y).2 x O).2] at hW;refine ⟨_,rfl,?_⟩;refine ⟨λI v z=>∃ (i:Nat) (ci:List (List Int)) (vi:Int),I=i/\i<=al.length/\z=al.length - i/\Wk true (λ_=>False) u v nb vi id ci (cs.length+i)/\AX cs al i ci,⟨_,0,cs,k,rfl,vx _,rfl,hW,AX.zero cs al⟩,?_⟩;rintro I v z _ ⟨i,ci,vi,rfl,hi,rfl,a8,V⟩;have Gv:=Gu.trans a8.wg;refine ah (λr=>?_) (λr=>?_)
 . have r:i<al.length:=by simpa using r
   have Z:=gm i r;have a7:=cy (Q _ Z);refine hl.ix Gv rfl r λa s aa h1 bb h3=>⟨_,_,_,_,aa v Gv,?_⟩
   intro cc ec ag;have du:=ag.num;refine bD ag.has rfl rfl λcT an co=>⟨_,_,_,_,bS an,?_⟩
   have b_:ak v cT:=ag.mod.then co λj J e=>by omega
   have b6:=an.lt;refine ((a8.enter b_).step (s:=al.getD i cS) (h3.grow Gu) h1 a7.2 (λx O=>⟨a7.1 x O,hN _ (Vt _ (U1 Z)) x O⟩) (by omega)).mono ?_;rintro e a_ ⟨rfl,b9,t,ht,bf⟩;have aT:bT a_ cc _:=an.keep b9 λe=>e (.inr ⟨by omega,b6⟩);have a':=Gu.trans bf.wg;have aw:=bf.KO (A':=λ_=>False) λj J=>J.elim;refine ⟨_,rfl,ah (λX=>?_) (λX=>?_)⟩
   . have X:jV ci (al.getD i cS)≠0:=by simpa using X
     have:=V.pI r X;simp only [X5,if_true];rw [this];exact ⟨rfl,a'⟩
   . have X:jV ci (al.getD i cS)=0:=by simpa using X
     have next: ¬((al.getD i cS).1=false/\(al.getD i cS).2= [])->∃az,az<al.length - i/\∃ (i':Nat) (bi:List (List Int)) (b7:Int),IntKind.i64.wrap ((i:Int)+1)=i'/\i'<=al.length/\az=al.length - i'/\Wk true (λ_=>False) u a_ nb b7 id bi (cs.length+i')/\AX cs al i' bi:=λbg=>by
      have hh:(al.getD i cS).1=true\/(al.getD i cS).2≠[]:=by
       cases h:(al.getD i cS).1 with
       |true=>exact .inl rfl
       |false=>exact .inr λe=>bg ⟨h,e⟩
      have:=ht X hh;subst this;exact ⟨_,by omega,i+1,_,_,wN,r,rfl,aw,V.next r X bg⟩
     refine ⟨_,ae aT rfl,ah (λr3=>?_) (λr3=>next λe=>by rw [e.1] at r3;cases r3)⟩;have r3:(al.getD i cS).1=false:=by simpa using r3
     refine ⟨_,_,_,ae aT rfl,ah (λr4=>?_) (λr4=>next λe=>?_)⟩
     . have r4:(al.getD i cS).2= []:=by
        have:(s.n:Int)=0:=by simpa using r4
        exact UF (by omega)
       have:=V.dG r X ⟨r3,r4⟩;simp only [X5,if_true];rw [this];exact ⟨rfl,a'⟩
     . have:(s.n:Int)≠0:=by simpa using r4
       rw [e.2] at h1;simp at h1;omega
 . have r:i=al.length:=by simp at r;omega
   subst r;simp only [X5,if_true];rw [V.all];exact ⟨rfl,Gv⟩
end
section
variable {W w w' w0 w2 w3 u:World} {p q:sn} {n m d i c:Nat} {k:Int} {hs:List Sl} {cs:List (List Int)} {l:List Int} {ss:List So} {al:List jb}
theorem FG (hl:SV w q al) (hm:m=al.length) (ag:m<=1000000) {e:Nat}:Calls Tryz.prog iO.id #[.slice q m e] w λe w'=>ak w w'/\((Kf al/\e=.returned (.i (-1)))\/∃t:Nat,lX al t/\e=.returned (.i (t:Int))):=by
 subst hm;refine iO.aj ?_;refine ⟨λI u z=>∃t:Nat,I=t/\t<=al.length/\z=al.length - t/\ak w u/\∀j,j<t->¬sA (al.getD j cS),⟨_,0,rfl,vx _,rfl,aD.refl _,λj hj=>by omega⟩,?_⟩;rintro I u z _ ⟨t,rfl,ht,rfl,O,J⟩;refine ah (λr=>?_) (λr=>⟨O,.inl ⟨λj hj=>J j (by simp at r;omega),rfl⟩⟩);have r:t<al.length:=by simpa using r
 have next: ¬sA (al.getD t cS)->∃Z,Z<al.length - t/\∃X:Nat,IntKind.i64.wrap ((t:Int)+1)=X/\X<=al.length/\Z=al.length - X/\ak w u/\∀j,j<X->¬sA (al.getD j cS):=λh=>
  ⟨_,by omega,t+1,wN,r,rfl,O,λj hj=>by
    by_cases e:j<t
    . exact J j e
    . obtain rfl:j=t:=by omega
      exact h⟩
 refine hl.ix O rfl r λa s Y h1 h2 h3=>⟨_,aK.get (Y u O) 0 _ rfl,ah (λV=>?_) (λV=>next λe=>by rw [e.1] at V;cases V)⟩
 refine hl.ix O rfl r λa2 s2 U k1 k2 Z=>⟨_,_,_,aK.get (U u O) 1 _ rfl,ah (λQ=>⟨O,.inr ⟨t,⟨r,⟨by simpa using V,?_⟩,J⟩,rfl⟩⟩) (λQ=>next λe=>?_)⟩
 . rw [k1] at Q;have Q:(((al.getD t cS).2.length:Nat):Int)=0:=by simpa using Q
   exact UF (by omega)
 . rw [k1,e.2] at Q;cases Q
def TI (x:Bool × Int):Int:=if x.1=true then 1000000+x.2 else x.2
def DJ (x:So):List Value:= [.slice x.1.p x.1.n x.1.c,.i (TI x.2)]
theorem xp:GV 2 DJ:=⟨λ_=>rfl,by omega,λx v hv=>by
 simp only [DJ,UI,WO,or_false] at hv;rcases hv with rfl|rfl<;>rfl⟩
theorem yE:pR Tryz.prog pH cj 2 32=true:=by kernel_rfl
theorem SW.Uz {ss:List So} {l:List Sr} (h:SW W ss l) (o:Vr 2 DJ u p ss) (hn:n=l.length) (hi:i<l.length) {K:Addr->Prop}
 (U:∀a (s:Sl),aK u a 0 [.slice s.p s.n s.c,.i (TI (l.getD i rA).2)]->s.n=(l.getD i rA).1.length->s.n<=maxLen->Vw sT W s.p (l.getD i rA).1->K a):aW p n (i:Int) 2 K:=by
 subst hn;obtain ⟨h1,J,Q,O⟩:=h.r i hi;refine o.ix Ot (by omega) (by rw [h.n]) (by omega) λa I=>U a (ss.getD i Ot).1 ?_ J Q O;rw [tn] at I;unfold DJ at I;rw [h1] at I;exact I
theorem SW.TB {ss:List So} {l:List Sr} (h:SW W ss l) (o:Row 2 DJ cj u p c ss) (hn:n=l.length) (hi:i<l.length) {K:Addr->Prop}
 (I:∀a (s:Sl),aK u a 0 [.slice s.p s.n s.c,.i (TI (l.getD i rA).2)]->s.n=(l.getD i rA).1.length->s.n<=maxLen->Vw sT W s.p (l.getD i rA).1->K a):aW p n (i:Int) 2 K:=h.Uz (o.vr xp) hn hi I
theorem HA {s:So} {b:Nat} (h:bT u b #[.slice s.1.p s.1.n s.1.c,.i (TI s.2)]):Vr 2 DJ u (some ⟨b,0,none⟩) [s]:=by
 intro j I;have:j=0:=by simpa using I
 subst this;exact ⟨_,rfl,bK h rfl,bK h rfl,trivial⟩
theorem Am {ss:List So} {al:List Sr} (o:Row 2 DJ cj w p d ss) (sw:SW W ss al) (hW:ak W w) (hn:n=al.length) (hx:n<=10000) {e:Nat}:
 Calls Tryz.prog eB.id #[.slice p n e] w λe w'=>∃ (q:sn) (d':Nat) (ks:List Sl),e=.returned (.slice q al.length d')/\V2 sT w' q ks (al.map (·.1))/\al.length<=d'/\ak w w':=by
 subst hn;refine eB.aj ?_;intro n1 w2 U;have e1:=U.num;refine ⟨λP N C I u z=>∃ (i:Nat) (ks:List Sl),I=i/\i<=al.length/\z=al.length - i/\i=N/\ak w u/\Ow Sl.v aE u P C ks/\VR sT W ks ((al.take i).map (·.1))/\∀j,aG P=some j->w.heap.size<=j,
  ⟨_,0,[],rfl,vx _,rfl,rfl,U.mod,jI.Ap U,VR.nil,λj Q=>by have:=aL Q;omega⟩,?_⟩
 rintro P N C I u z _ ⟨i,ks,rfl,hi,rfl,rfl,V,ok,vr,fo⟩;have O:=vr.n;rw [UL,GD,U7 hi] at O;refine ah (λr=>?_) (λr=>?_)
 . have r:i<al.length:=by simpa using r
   refine sw.TB (o.grow V) rfl r λa s X h1 U h3=>⟨_,_,_,aK.get X 0 _ rfl,?_⟩
   intro aT ar J;have av:=J.num;have zu:=V.size;refine Ow.tD jK (ok.grow J.mod) (te (sl:=s) J.has) O.symm rfl (λ_=>rfl) (by simp;omega) λap p' c' aa Z Y aw=>?_;have an:=J.mod.size;refine ⟨_,by omega,i+1,_,wN,r,rfl,by simp [O],(V.trans J.mod).then Z λj Q e=>by have:=fo j e;omega,aa,?_,λj Q=>?_⟩
   . rw [c8 r rA,LV];exact vr.mA (VR.bJ (s:=s) h3 h1 U)
   . rcases Y with rfl|rfl
     . exact fo j Q
     . have:=aL Q;omega
 . have r:i=al.length:=by simp at r;omega
   subst r;rw [K'] at vr;exact ⟨P,C,ks,rfl,(vr.grow (hW.trans V)).v2 ok.vw,by
    rcases ok.un with ⟨_,_,e⟩| ⟨_,_,_,_,h,_⟩
    . rw [e] at O;simp at O;omega
    . omega,V⟩
end
section
variable {W w w' w0 w2 w3 u:World} {p q:sn} {n m d i c:Nat} {k:Int} {hs:List Sl} {cs:List (List Int)} {l:List Int} {ss:List So} {al:List jb}
theorem Vr.QJ {ss:List So} (h:Vr 2 DJ w p ss) {k:Nat} (I:k<=ss.length):Vr 2 DJ w p (ss.take k):=by
 have:=h.part (i:=0) (m:=k) (by omega)
 rwa [TK,W5] at this
theorem Vr.RG {ss:List So} (h:Vr 2 DJ w p ss) {k c:Nat} (I:k<=ss.length) (J:ss.length<=c):Vr 2 DJ w (if c=k then p else p.map (·.add (k*2))) (ss.drop k):=by
 by_cases e:c=k
 . rw [XG (by omega)];exact Vr.nil
 . rw [if_neg e];have:=h.part (i:=k) (m:=ss.length - k) (by omega)
   rwa [UM (by rw [U0];omega)] at this
theorem D6 {e:Nat} (hc:V2 sT w p hs cs) (hn:n=cs.length) (hx:cs.length<=1000) (hl:SV w q al) (hm:m=al.length) (e':m<=1000) (du:∀c∈cs,jf c=true) (a_:fG al=true) (hi:i<=al.length):
 Calls Tryz.prog f_.id #[.agg #[.i k,.slice p n d],.slice q m e,.i (i:Int)] w λe w'=>∃ (q':sn) (d':Nat) (ss:List So),e=.returned (.slice q' (eI cs al i).length d')/\Row 2 DJ cj w' q' d' ss/\SW w ss (eI cs al i)/\ak w w'/\∀j,aG q'=some j->w.heap.size<=j:=by
 subst hn hm;refine f_.aj ?_;intro n1 w2 h2 n3 w4 h4;have e1:=h2.num;have e3:=h4.num;have z2:=h2.mod.size;have G4:ak w w4:=h2.mod.trans h4.mod;have b4:=h2.has.grow h4.mod;have o4:Row 2 DJ cj w4 (some ⟨n3,0,none⟩) 0 []:=Row.df xp.len h4.at (y4 _) (vx _) rfl rfl;refine ⟨λP N C I u z=>∃ (i:Nat) (ss:List So),I=i/\i<=cs.length/\z=cs.length - i/\i=N/\ak w2 u/\Row 2 DJ cj u P C ss/\SW w ss (p6 cs i)/\∀j,aG P=some j->w2.heap.size<=j,
  ⟨_,0,[],rfl,vx _,rfl,rfl,h4.mod,o4,SW.nil,λj O=>by have:=aL O;omega⟩,?_⟩
 rintro P N C I u z _ ⟨a,ss,rfl,ha,rfl,rfl,U,o,Z,fo⟩;have Gu:=h2.mod.trans U;have J:=Z.n;rw [qd] at J;have bu:=h2.has.grow U;have zu:=U.size;refine ⟨_,_,_,ae bu rfl,ah (λr=>?_) (λr=>?_)⟩
 . have r:a<cs.length:=by simpa using r
   refine ⟨_,_,_,ae bu rfl,(hc.grow Gu).ix (by omega) rfl (by omega) λad sl k1 k0 k2 k3 k4=>⟨_,_,_,k1,?_⟩⟩;rw [tn] at k0 k2;obtain ⟨_,_,r3⟩:=hc.r a r;rw [<- k0] at r3;intro fv e9 pO;have et:=pO.num;refine Row.mA xp yE (o.grow pO.mod) (HA (s:=(sl,false,(a:Int))) pO.has) J.symm rfl (by simp;omega) λfl p' c' cg dT av dk=>?_;refine ⟨_,by omega,a+1,_,wN,r,rfl,by simp [J],(U.trans pO.mod).then dT λj O e=>by have:=fo j e;omega,cg,by rw [BF];exact Z.mA (SW.bJ rfl k2 k3 r3),λj O=>?_⟩;have:=pO.mod.size;rcases av with rfl|rfl
   . exact fo j O
   . have:=aL O;omega
 have r:a=cs.length:=by simp at r;omega
 subst r;refine ⟨λP N C I u z=>∃ (t:Nat) (ss:List So),I=t/\t<=i/\z=i - t/\N=(eI cs al t).length/\ak w2 u/\Row 2 DJ cj u P C ss/\SW w ss (eI cs al t)/\∀j,aG P=some j->w2.heap.size<=j,
  ⟨_,0,ss,rfl,vx _,rfl,by show _=(p6 cs cs.length).length;rw [qd],U,o,Z,fo⟩,?_⟩
 clear r o Z fo J bu zu Gu;clear U ss;rintro P N C I u z _ ⟨t,ss,rfl,ht,rfl,rfl,U,o,Z,fo⟩;have Gu:=h2.mod.trans U;have J:=Z.n;have zu:=U.size;have fb:=td (cs:=cs) (al:=al) (i:=t);refine ah (λr=>?_) (λr=>?_)
 . have r:t<i:=by simpa using r
   have bg:=pD (al:=al) (j:=t) (by omega);have aT:=fV a_ _ bg;have bk:=cy aT;refine hl.ix Gu rfl (by omega) λa1 s1 bn eL e8 pO=>⟨_,aK.get (bn u Gu) 0 _ rfl,ah (λr1=>?_) (λr1=>?_)⟩
   . have hd:(al.getD t cS).1=false:=by simpa using r1
     refine hl.ix Gu rfl (by omega) λa2 s2 b5 b9 ce cT=>⟨_,_,_,aK.get (b5 u Gu) 1 _ rfl,?_⟩
     intro n29 ey Q;have eR:=Q.num;rw [aA (x:=(1000000:Int)+t) (by omega) (by omega)] at Q;refine Row.mA xp yE (o.grow Q.mod) (HA (s:=(s2,true,(t:Int))) Q.has) J.symm rfl (by simp;omega) λe2 p' c' cm cb av dk=>?_;refine ⟨_,by omega,t+1,_,wN,r,rfl,by rw [rh hd];simp [J],(U.trans Q.mod).then cb λj O e=>by have:=fo j e;omega,cm,by rw [rh hd];exact Z.mA (SW.bJ rfl b9 ce cT),λj O=>?_⟩;have:=Q.mod.size;rcases av with rfl|rfl
     . exact fo j O
     . have:=aL O;omega
   . have hd:(al.getD t cS).1=true:=by simpa using r1
     refine ⟨λP' N' C' I v y=>P'=P/\N'=(eI cs al t).length/\C'=C/\∃x:Nat,I=x/\x<=(eI cs al t).length/\y=(eI cs al t).length - x/\ak u v/\∀j,j<x->aY ((eI cs al t).getD j rA).1≠aY (al.getD t cS).2,
      ⟨_,rfl,rfl,rfl,0,rfl,vx _,rfl,aD.refl _,λj O=>by omega⟩,?_⟩
     rintro P' N' C' I v y _ ⟨rfl,rfl,rfl,x,rfl,hx,rfl,gv,ap⟩;have Gv:=Gu.trans gv;refine ah (λY=>?_) (λY=>?_)
     . have Y:x< (eI cs al t).length:=by simpa using Y
       have c3:(eI cs al t).getD x rA∈eI cs al t:=by simp [List.getD,Y]
       have d9:=cy (uS du a_ (by omega) _ c3);have gd:ak v v.drew:=(aD.refl v).drew;refine ⟨ak v,gd,Z.TB (o.grow gv) rfl Y λa3 s3 a8 d7 fd cp=>⟨_,_,_,λv' g=>aK.get (aK.keep g id a8) 0 _ rfl,?_⟩⟩;refine (xn (cp.grow (Gv.trans gd)) d7 (by omega) d9.1).mono ?_;rintro eK fm ⟨q2,d2,rfl,o2,X⟩;have X:=gd.trans X;refine ⟨_,_,_,rfl,X,hl.ix Gu rfl (by omega) λa4 s4 b7 dq eA d8=>⟨_,_,_,λv' g=>aK.get (b7 v' (Gv.trans g)) 1 _ rfl,?_⟩⟩;refine (xn (d8.grow (Gv.trans X)) dq (by omega) bk.1).mono ?_;rintro e5 fk ⟨q3,d3,rfl,o3,a6⟩;have bb:=X.trans a6;have nl:=p9 ((eI cs al t).getD x rA).1;refine ⟨_,_,_,rfl,(yX (o2.grow a6).vw o3.vw rfl rfl (by unfold maxLen;omega)).mono ?_⟩;rintro e7 V ⟨rfl,cc⟩;have bc:=bb.trans cc;have ax:ak u V:=gv.trans bc;refine ⟨_,rfl,ah (λr3=>?_) (λr3=>?_)⟩
       . have dp:aY ((eI cs al t).getD x rA).1=aY (al.getD t cS).2:=by simpa using r3
         intro n50 bf ac;have d6:=ac.num;have ed:n50=V.heap.size:=d6;have b6:ak u bf:=(ax.drew).trans ac.mod;have eF:=ax.size;have dd:Row 2 DJ cj bf (some ⟨n50,0,none⟩) 0 []:=Row.df xp.len ac.at (y4 _) (vx _) rfl rfl;have eb:=o.cap;have vo:Vr 2 DJ u P' ss:=o.vr xp;refine eh 0 x C' rfl rfl rfl (by omega) (by omega) (by omega) ?_;have ei:(if C'=0 then P' else P'.map (·.add (0*2)))=P':=by split;rfl;exact TK P'
         rw [ei,Ve];refine Row.mA xp yE dd (Vr.QJ (vo.grow b6) (k:=x) (by omega)) rfl (by rw [GD];omega) (by simp;omega) λb8 dc fq a7 d4 bY eg=>?_;rw [Vh] at a7;rw [wN (x:=(x:Int)+1) (i:=x+1) (by omega) (by omega)];have fa:=ac.mod.size;have eu:V.drew.heap.size=V.heap.size:=rfl;have f53:∀j,aG dc=some j->V.heap.size<=j:=λj O=>by
          rcases bY with rfl|rfl
          . have:=aL O;omega
          . have:=aL O;omega
         have ay:ak u b8:=b6.then d4 λj O e=>by have:=aL e;omega
         have z53:=ay.size;refine eh (x+1) (eI cs al t).length C' rfl rfl rfl (by omega) (by omega) (by omega) ?_;refine Row.mA xp yE a7 (Vr.RG (vo.grow ay) (k:=x+1) (by omega) (by omega)) (by simp) (by rw [U0];omega) (by simp;omega) λfs e4 eH dh co a' ep=>?_;have hg:jO (al.getD t cS).2 (eI cs al t)=(eI cs al t).take x++ (eI cs al t).drop (x+1):=y8 Y ap dp;have tZ:=Z.part x Y;refine ⟨_,by omega,t+1,_,wN,r,rfl,by rw [pz hd,hg];exact tZ.n,(U.trans ay).then co λj O e=>by have:=f53 j e;omega,dh,by rw [pz hd,hg];exact tZ,λj O=>?_⟩;rcases a' with rfl|rfl
         . have:=f53 j O;omega
         . have:=aL O;omega
       . have ea:aY ((eI cs al t).getD x rA).1≠aY (al.getD t cS).2:=by simpa using r3
         refine ⟨_,by omega,rfl,rfl,rfl,x+1,wN,Y,rfl,ax,λj O=>?_⟩;by_cases e:j<x
         . exact ap j e
         . obtain rfl:j=x:=by omega
           exact ea
     . have Y:x=(eI cs al t).length:=by simp at Y;omega
       subst Y;have hg:jO (al.getD t cS).2 (eI cs al t)=eI cs al t:=zV ap;exact ⟨_,by omega,t+1,ss,wN,r,rfl,by rw [pz hd,hg],U.trans gv,o.grow gv,by rw [pz hd,hg];exact Z,fo⟩
 . have r:t=i:=by simp at r;omega
   subst r;exact ⟨P,C,ss,rfl,o,Z,Gu,λj O=>by have:=fo j O;omega⟩
end
end Go.Proofs.YtbdghpjnifjlmaaGreat.W
namespace Go.Fw
open Go Go.RowKit Go.Maps
variable {P:Program} {t k e:TypeId} {w w':World} {b n:Nat} {s:Bool × Int->Bool}
def HK (P:Program) (k:TypeId):Bool:=
 P.keyType k && Nat.beq (P.cellsOf k) 2 && !Nat.beq P.types.size 0 && (match P.underlying k with
  |some (.struct O)=> (O.all (·.name != "_")) && (match O.toList with
   | [J,I]=>Nat.beq J.offset 0 && Nat.beq I.offset 1 && Nat.beq (P.cellsOf J.type) 1 && Nat.beq (P.cellsOf I.type) 1 && (match P.underlying J.type with|some .bool=>true|_=>false) && (match P.underlying I.type with|some (.int .i64)=>true|_=>false)
   |_=>false)
  |_=>false)
abbrev ov (x:Bool × Int):Value:=.agg #[.bool x.1,.i x.2]
theorem MQ {ty:TypeId} (h:(match P.underlying ty with|some (.int .i64)=>true|_=>false)=true):P.underlying ty=some (.int .i64):=by
 split at h
 . assumption
 . simp at h
theorem BK {ty:TypeId} (h:(match P.underlying ty with|some .bool=>true|_=>false)=true):P.underlying ty=some .bool:=by
 split at h
 . assumption
 . simp at h
theorem Bf (h:HK P k=true) {x:Bool × Int} (h2:(Lit.int .i64 x.2).wf=true):∃l,keyOf P k (ov x)=some l:=by
 simp only [HK,ts] at h;obtain ⟨⟨⟨hk,O⟩,J⟩,h⟩:=h;have O:P.cellsOf k=2:=UG O;split at h
 . rename_i fs hu;simp only [ts] at h;obtain ⟨hn,h⟩:=h;split at h
   . rename_i f0 f1 hl;simp only [ts] at h;obtain ⟨⟨⟨⟨⟨X,o1⟩,V⟩,c1⟩,u0⟩,U⟩:=h;have X:=UG X;have o1:=UG o1;have V:=UG V;have c1:=UG c1;have u0:=BK u0;have U:=MQ U;have hf:(ov x).formed P k=true:=by simp [Value.formed,hu,O]
     have Q:(ov x).cells.toList= [.bool x.1,.i x.2]:=by simp [Value.cells]
     have Z:P.types.size≠0:=λe=>by rw [e] at J;simp at J
     have k0:P.keyLits P.types.size f0.type [.bool x.1]=some [.bool x.1]:=by
      cases I:P.types.size with
      |zero=>exact absurd I Z
      |succ z=>unfold Program.keyLits;simp [u0]
     have k1:P.keyLits P.types.size f1.type [.i x.2]=some [.i x.2]:=by
      cases I:P.types.size with
      |zero=>exact absurd I Z
      |succ z=>unfold Program.keyLits;simp [U,h2]
     have Y:P.keyLits (P.types.size+1) k [.bool x.1,.i x.2]=some [.bool x.1,.i x.2]:=by
      unfold Program.keyLits;simp only [hu];rw [if_pos ⟨by simp [O],hn⟩,hl];simp only [XY,List.mapM_nil,X,o1,V,c1,W5,Xo,Yg,List.drop_succ_cons,k0,k1,Option.bind_eq_bind,V8,Option.pure_def,Wj];rfl
     refine ⟨.string (keyBytes [.bool x.1,.i x.2]),?_⟩;unfold keyOf;simp only [hu];rw [hk,hf,Q,Y];rfl
   . simp at h
 . simp at h
def Ln (P:Program) (t k e:TypeId):Bool:=
 (match P.underlying t with|some (.map J I)=>Nat.beq J k && Nat.beq I e|_=>false) && HK P k && (match P.underlying e with|some .bool=>true|_=>false) && (match P.info? e with|some i=> (match i.zero with|some (.bool b)=> !b|_=>false)|none=>false)
theorem Bn (h:Ln P t k e=true):P.underlying t=some (.map k e)/\HK P k=true/\P.underlying e=some .bool/\∀w,(zeroValue e).run P w=.ok (.bool false) w:=by
 simp only [Ln,ts] at h;obtain ⟨⟨⟨h1,O⟩,V⟩,I⟩:=h;split at h1
 . rename_i Q J hu;simp only [ts] at h1;have Y:Q=k:=UG h1.1;have X:J=e:=UG h1.2;subst Y X;refine ⟨hu,O,BK V,λw=>?_⟩;split at I
   . rename_i i hi;split at I
     . rename_i n U;have:n=false:=by simpa using I
       subst this;unfold zeroValue;simp only [Sem.run_bind,eM hi,Result.andThen_ok,U,Sem.run_pure]
     . simp at I
   . simp at I
 . simp at h1
def MO (P:Program) (k e:TypeId) (w:World) (b n:Nat) (s:Bool × Int->Bool):Prop:=
 ∃D:DataW Unit,w.ownsMap P k (plainElem P e) b n D/\∀ (x:Bool × Int) (l:Lit),keyOf P k (ov x)=some l->D.atKey l (.lit (.bool false))=.lit (.bool (s x))
theorem MO.lt (h:MO P k e w b n s):b<w.heap.size:=by obtain ⟨D,h,_⟩:=h;exact h.lt
theorem MO.keep {S:Nat->Prop} (h:MO P k e w b n s) (m:aD S w w') (hs: ¬S b):MO P k e w' b n s:=by
 have hl:=h.lt;obtain ⟨D,⟨I,clock,hb,h⟩,J⟩:=h;exact ⟨D,⟨I,clock,(m.block b hl hs).trans hb,h⟩,J⟩
theorem MO.grow (h:MO P k e w b n s) (m:ak w w'):MO P k e w' b n s:=h.keep m id
theorem MO.new {b:Nat} (h:jI (.map #[] 0) w b w'):MO P k e w' b 0 λ_=>false:=by
 obtain ⟨rfl,rfl⟩:=h;exact ⟨.map [],World.ownsMap_made w P k _,λx l _=>rfl⟩
theorem MO.cP (hm:Ln P t k e=true) (K:Keyed P k) (h:MO P k e w b n s) {x:Bool × Int} (I:(Lit.int .i64 x.2).wf=true):
 (Instr.lookup t (.map (some b)) (ov x) false).run P w=.ok (.bool (s x)) w:=by
 obtain ⟨ht,O,he,J⟩:=Bn hm;obtain ⟨D,h,Q⟩:=h;obtain ⟨l,hl⟩:=Bf O I;obtain ⟨v,ps,hr,hv⟩:=h.lookup K ht (J w) (plainElem_bool he false) hl;rw [Q x l hl] at hv;have:v=.bool (s x):=by
  unfold plainElem at hv;rw [he] at hv;cases v<;>simp_all
 rw [hr,this]
theorem MO.put (hm:Ln P t k e=true) (K:Keyed P k) (h:MO P k e w b n s) (hn:n<maxLen) {x:Bool × Int} (Z:(Lit.int .i64 x.2).wf=true) (v:Bool):
 ∃w',(Instr.mapUpdate t (.map (some b)) (ov x) (.bool v)).run P w=.ok () w'/\MO P k e w' b (n+1) (λu=>if u=x then v else s u)/\aD (·=b) w w':=by
 obtain ⟨ht,hk,he,hz⟩:=Bn hm;obtain ⟨D,h,Y⟩:=h;have O:=h.isMap;obtain ⟨l,hl⟩:=Bf hk Z;obtain ⟨w',hr,X,J⟩:=h.update K ht hn hl (plainElem_bool (H:=Unit) he v);refine ⟨w',hr,⟨_,X,λu l' I=>?_⟩,⟨J.os,J.tape,J.output,J.size,λi hi hn=>J.block i hi λe=>hn (Vo e)⟩⟩;by_cases hu:u=x
 . subst hu;have:l'=l:=Vo (I.symm.trans hl);subst this;exact (atKey_put_same O (K.key hl) _ _).trans (by simp)
 . have Q:l'≠l:=λe=>by
    subst e;have:=K.inj I hl;injection this with this;apply hu;have V:=congrArg (λ(a:Array Value)=>a[0]?) this;have U:=congrArg (λ(a:Array Value)=>a[1]?) this;simp at V U;exact Prod.ext V U
   exact ((atKey_put_other Q _ _).trans (Y u l' I)).trans (by simp [hu])
end Go.Fw
namespace Go.Proofs.YtbdghpjnifjlmaaGreat.W
open Go Go.Fw Go.RowKit Go.SoP Go.LiP
open Go.Proofs.Tryz (prog)
section
open Go.Maps
variable {W w w' w0 w2 w3 u:World} {p q:sn} {n m d i c:Nat} {k:Int} {hs tl:List Sl} {cs:List (List Int)} {l:List Int} {ss:List So} {al:List jb}
theorem vC:Keyed prog dj:=Keyed.of_law (deep_law_laid (by kernel_rfl) (m:=2) (by omega) (of_decide_eq_true (by kernel_rfl)) (by kernel_rfl) (by kernel_rfl))
theorem vh:Ln prog qH dj cC=true:=by kernel_rfl
theorem I0:nE prog rL jd 24=true:=by kernel_rfl
def TH (W u:World) (cs:List (List Int)) (al:List jb) (I:sn) (tl:List Sl):Prop:=∀j,j<tl.length->∃ss,Row 3 yA bF u (tl.getD j Sl.nil).p (tl.getD j Sl.nil).c ss/\SW W ss (eI cs al j)/\(tl.getD j Sl.nil).n=(eI cs al j).length/\∀b,aG (tl.getD j Sl.nil).p=some b->aG I≠some b
theorem TH.nil:TH W u cs al none []:=λj I=>by simp at I
theorem TH.grow {I:sn} (h:TH W u cs al I tl) (g:ak u w'):TH W w' cs al I tl:=λj J=>by
 obtain ⟨ss,a,b⟩:=h j J;exact ⟨ss,a.grow g,b⟩
theorem TH.mA {J I:sn} {s:Sl} {ss:List So} (h:TH W u cs al J tl) (m:aD (λb=>aG J=some b) u w') (hp:I=J\/I=some ⟨u.heap.size,0,none⟩) (o:Row 3 yA bF u s.p s.c ss) (V:SW W ss (eI cs al tl.length)) (hn:s.n=(eI cs al tl.length).length)
 (Q:∀b,aG s.p=some b->aG J≠some b):TH W w' cs al I (tl++ [s]):=by
 have key:∀ {q:sn},(∀b,aG q=some b->b<u.heap.size)->(∀b,aG q=some b->aG J≠some b)->∀b,aG q=some b->aG I≠some b:=λh1 U b hb e=>by
  rcases hp with rfl|rfl
  . exact U b hb e
  . have:=h1 b hb;have:=aL e;omega
 intro j X;by_cases e:j<tl.length
 . have O:(tl++ [s]).getD j Sl.nil=tl.getD j Sl.nil:=by simp [List.getD,UT e]
   rw [O];obtain ⟨ss,a,b,c,d⟩:=h j e;exact ⟨ss,a.keep m d,b,c,key (λb hb=>a.lt b hb) d⟩
 . have:j=tl.length:=by simp at X;omega
   subst this;have O:(tl++ [s]).getD tl.length Sl.nil=s:=by simp [List.getD]
   rw [O];exact ⟨ss,o.keep m Q,V,hn,key (λb hb=>o.lt b hb) Q⟩
theorem Sv {x:Int} (h: -9223372036854775808<=x/\x<=9223372036854775807):(Lit.int .i64 x).wf=true:=by
 simp [Lit.wf,IntKind.min,IntKind.max,IntKind.signed,IntKind.bits];omega
theorem MO.Tn {α:Type} {f:α->Value} {T I J:TypeId} {b n c:Nat} {s:Bool × Int->Bool} {l:List α} (h:MO prog I J w b n s) (o:Ow f T w p c l):aG p≠some b:=λe=>by
 obtain ⟨D,⟨Q,clock,hb,_⟩,_⟩:=h;rcases o.un with ⟨rfl,_,_⟩| ⟨g,cur,rfl,O,_⟩
 . simp [aG] at e
 . have:=aL e;subst this;rw [O] at hb;simp at hb
theorem QF {s:Bool × Int->Prop} (h: ¬s (true,(i:Int))):Qx cs al i s=s:=by
 funext x;exact propext ⟨λe=>e.resolve_right λe=>h e.1,.inl⟩
theorem xh {K:List Nat} {v:Nat}:(K.map λj:Nat=> (j:Int)).getD v 0=((K.getD v 0:Nat):Int):=by
 simp only [y6,Vx];cases K[v]? <;>rfl
theorem EJ {f:Nat->Bool} {x:Nat} (h:f x=true):(List.range (x+1)).filter f=(List.range x).filter f++ [x]:=by
 rw [WA,WS,Wx h,XS]
theorem Fh {f:Nat->Bool} {x:Nat} (h: ¬f x=true):(List.range (x+1)).filter f=(List.range x).filter f:=by
 rw [WA,WS,Wy h,XS,VF]
def gG (K:List Nat):List Int:=K.map λj:Nat=> (j:Int)
theorem e_ (K:List Nat):(gG K).length=K.length:=by simp [gG]
def Kx (k:Int) (cs:List (List Int)) (al:List jb) (E:Int) (A B:List Nat):Prop:=
 (¬(cQ k cs=true/\fG al=true)/\E=1/\A= []/\B= [])\/
 ((cQ k cs=true/\fG al=true)/\¬rG cs al/\E=4/\A= []/\B= [])\/
 ((cQ k cs=true/\fG al=true)/\∃t,lX al t/\(∀i,i<=t->(al.getD i cS).1=true\/uB ((eI cs al i).map (·.1)) (al.getD i cS).2)/\E=0/\A=lQ cs al t/\B=iP cs al t)
def FI (W:World) (cs:List (List Int)) (al:List jb) (t:Nat) (J:sn) (O Q:Nat) (P:sn) (N C:Nat) (I:Int) (u:World) (z:Nat):Prop:=
 ∃ (i:Nat) (ss:List So) (tl:List Sl),I=i/\i<=t+1/\z=t+1 - i/\tl.length=i/\O=i/\N=(eI cs al i).length/\ak W u/\Row 3 yA bF u P C ss/\SW W ss (eI cs al i)/\
   Ow Sl.v jd u J Q tl/\TH W u cs al J tl/\(∀j,aG P=some j->W.heap.size<=j/\aG J≠some j)/\∀j,aG J=some j->W.heap.size<=j
end
section
open Go.Maps
variable {W w w' w0 w2 w3 u:World} {p q:sn} {n m d i c:Nat} {k:Int} {hs tl:List Sl} {cs:List (List Int)} {l:List Int} {ss:List So} {al:List jb}
theorem rz (w:World):ak w w.drew:=(aD.refl w).drew
theorem E1 (c:List Int):∀l:List Sr,tC ((jO c l).map (·.1))<=tC (l.map (·.1))
 | []=>y4 _
 |x::l=>by
  have I:=E1 c l;have e:∀m:List Sr,tC ((x::m).map (·.1))=x.1.length+tC (m.map (·.1)):=λm=>by simp [tC]
  unfold jO;rw [e];split
  . omega
  . rw [e];omega
theorem DQ:∀n,n<=cs.length->(p6 cs n).map (·.1)=cs.take n:=by
 intro n hn;unfold p6;rw [VU];refine VH (by simp;omega) λi h1 I=>?_;have:i<cs.length:=by simp at h1;omega
 simp [List.getD,this]
theorem Ig (h:∀x∈al,x.2.length<=40):∀ {i:Nat},i<=al.length->tC ((eI cs al i).map (·.1))<=tC cs+i*40
 |0,_=>by
  have:(eI cs al 0).map (·.1)=cs:=by
   show (p6 cs cs.length).map (·.1)=cs;rw [DQ _ (y4 _),K']
  rw [this];omega
 |i+1,hi=>by
  have I:=Ig h (i:=i) (by omega);rw [uN];unfold vM;split
  . have:=E1 (al.getD i cS).2 (eI cs al i);omega
  . have:=h _ (pD (al:=al) (j:=i) (by omega));rw [LV,WT,vA];show _+ (al.getD i cS).2.length<=_;omega
theorem Pz {e:Nat} (hc:V2 sT w p hs cs) (hn:n=cs.length) (hx:cs.length<=40) (hl:SV w q al) (hm:m=al.length) (lq:m<=20000) (gf:∀x∈al,x.2.length<=40) (g6:m<=e):
 Calls prog qi.id #[.agg #[.i k,.slice p n d],.slice q m e] w λe w'=>∃ (p1 p2:sn) (c1 c2:Nat) (E:Int) (A B:List Nat),e=.returned (.tuple #[.agg #[.slice p1 A.length c1,.slice p2 B.length c2],.i E])/\Kx k cs al E A B/\dz aq w' p1 c1 (gG A)/\dz aq w' p2 c2 (gG B)/\ak w w':=by
 subst hn hm;refine qi.aj ?_;intro n1 w2 h2 n3 w4 h4;have e1:=h2.num;have e3:=h4.num;have z2:=h2.mod.size;have G4:=h2.mod.trans h4.mod;have b4:=h2.has.grow h4.mod;have ax:∀ {u v:World} {E:Int},Kx k cs al E [] []->ak w4 u->aD (·=n3) u v->∃ (p1 p2:sn) (c1 c2:Nat) (E':Int) (A B:List Nat),Ending.returned (Value.tuple #[.agg #[.slice none 0 0,.slice none 0 0],.i E])=.returned (.tuple #[.agg #[.slice p1 A.length c1,.slice p2 B.length c2],.i E'])/\Kx k cs al E' A B/\dz aq v p1 c1 (gG A)/\dz aq v p2 c2 (gG B)/\ak w v:=
  λh g m=>⟨none,none,0,0,_,[],[],rfl,h,Ow.nil _ _ _,Ow.nil _ _ _,(G4.trans g).then m λj J e=>by omega⟩
 refine ⟨_,_,_,_,bS b4,(fS (hc.grow G4) rfl).mono ?_⟩;rintro e5 w7 ⟨rfl,g7⟩;have G7:=G4.trans g7;refine ⟨_,rfl,?_⟩;cases b7:cQ k cs with
 |false=>exact bP rfl (bD (h4.has.grow g7) rfl rfl λw9 b9 m9=>⟨_,_,_,_,_,_,bS b9,ax (.inl ⟨(λh=>by rw [b7] at h;cases h.1),rfl,rfl,rfl⟩) g7 m9⟩)
 |true=>
 refine bA rfl ((j8 (hl.grow G7) rfl (by omega)).mono ?_);rintro e7 k8 ⟨rfl,az⟩;have az:=g7.trans az;have e4:=G4.trans az;refine ⟨_,rfl,?_⟩;cases an:fG al with
 |false=>exact bP rfl (bD (h4.has.grow az) rfl rfl λw9 b9 m9=>⟨_,_,_,_,_,_,bS b9,ax (.inl ⟨(λh=>by rw [an] at h;cases h.2),rfl,rfl,rfl⟩) az m9⟩)
 |true=>
 refine bA rfl ⟨_,_,_,_,bS (b4.grow az),(Jc (hc.grow e4) rfl (by omega) (hl.grow e4) rfl g6).mono ?_⟩;rintro kb lu ⟨rp,rfl,gc,a8⟩;have a8:=az.trans a8;have hH:=G4.trans a8;refine ⟨_,rfl,?_⟩;cases rp with
 |false=>exact bP rfl (bD (h4.has.grow a8) rfl rfl λw9 b9 m9=>⟨_,_,_,_,_,_,bS b9,ax (.inr (.inl ⟨⟨b7,an⟩,(λh=>by have:=gc.2 ⟨b7,an,h⟩;cases this),rfl,rfl,rfl⟩)) a8 m9⟩)
 |true=>
 obtain ⟨_,_,t,ht,eA⟩:=gc.1 rfl;refine bA rfl ((Nx (hl.grow hH) rfl (by omega)).mono ?_);rintro l_ ap ⟨a7,⟨hh,rfl⟩| ⟨t',ho,rfl⟩⟩
 . exact absurd ht.2.1 (hh t ht.1)
 obtain rfl:=ht.Er ho;have a7:=a8.trans a7;have c0:=G4.trans a7;have mn:=ht.1;have e9:=b4.grow a7;have k2:=c0.size;refine ⟨_,rfl,_,_,_,_,bS e9,(Al (k:=k) (hc.grow c0) rfl (by omega)).mono ?_⟩;rintro j5 k_ ⟨q0,d0,h6,rfl,o0,hM,hA,f0⟩;refine ⟨_,_,_,rfl,?_⟩;rw [wN (x:=(t:Int)+1) (i:=t+1) (by omega) (by omega)];refine eh 0 (t+1) e rfl rfl rfl (by omega) (by omega) (by omega) ?_;have ei:(if e=0 then q else q.map (·.add (0*2)))=q:=by split;rfl;exact TK q
 rw [ei,Ve];have dc:=hl.grow c0;have d6:=DA b7;refine ⟨FI ap cs al t,⟨_,0,h6,[],rfl,vx _,rfl,rfl,rfl,by show _=(p6 cs cs.length).length;rw [qd],hA,o0,hM,Ow.nil _ _ _,TH.nil,λj J=>⟨f0 j J,λe=>by simp [aG] at e⟩,λj J=>by simp [aG] at J⟩,?_⟩;rintro P1 N1 C1 P N C I u z _ ⟨i,ss,tl,rfl,hi,rfl,ce,mu,rfl,gu,o,sw,ot,th,fo,ft⟩;have kt:=td (cs:=cs) (al:=al) (i:=i);have aa:=sw.n;refine ah (λr=>?_) (λr=>?_)
 . have r:i<t+1:=by rw [decide_eq_true_eq] at r;omega
   have a6:=pD (al:=al) (j:=i) (by omega);have aT:=fV an _ a6;have et:(al.take (t+1)).getD i cS=al.getD i cS:=by
    simp only [y6,Vf];rw [if_pos (by omega)]
   refine (dc.take (t+1)).ix gu (by rw [GD];omega) (by rw [GD];omega) λa s ef h1 hE h3=>⟨_,_,_,_,ef u gu,?_⟩
   rw [et] at h1 h3 ⊢;intro hU kU eb;have lR:=eb.num;refine bD eb.has rfl rfl λhO gn hV=>?_;have fm:ak u hO:=eb.mod.then hV λj J e=>by omega
   have zu:=gu.size;intro kf kB bi;have mq:=bi.num;have ku:=fm.size;have a':=fm.trans bi.mod;have kh:=gn.lt;have lm:=bi.size;refine Ow.lP I0 (ot.grow a') (⟨P,(eI cs al i).length,C⟩:Sl) bi.has rfl (by omega) (λ_=>rfl) (by omega) λZ bk g' eg cb ay fj=>?_;have fT:=gu.trans a';have cT:ak ap Z:=fT.then cb λj J e=>by have:=ft j e;omega
   have ec:bT Z hU _:=(gn.grow bi.mod).keep cb λe=>by have:=ot.lt _ e;omega
   have d7:Row 3 yA bF Z P C ss:=(o.grow a').keep cb λj J e=> (fo j J).2 e;have fk:TH ap Z cs al bk (tl++ [⟨P,(eI cs al i).length,C⟩]):=(th.grow a').mA (s:=⟨P,(eI cs al i).length,C⟩) cb ay (o.grow a') (by rw [ce];exact sw) (by rw [ce]) λb hb=> (fo b hb).2;have fL:∀j,aG bk=some j->ap.heap.size<=j:=λj J=>by
    rcases ay with rfl|rfl
    . exact ft j J
    . have:=aL J;have:=fT.size;omega
   have hX:∀j,aG P=some j->ap.heap.size<=j/\aG bk≠some j:=λj J=>⟨(fo j J).1,λe=>by
    rcases ay with rfl|rfl
    . exact (fo j J).2 e
    . have:=aL e;have:=(o.grow a').lt j J;omega⟩
   have dd:∀ {q':sn} {v:World},(∀j,aG q'=some j->aG P=some j\/Z.heap.size<=j)->∀j,aG q'=some j->ap.heap.size<=j/\aG bk≠some j:=λ{q'} {v} h j J=>by
    rcases h j J with h|h
    . exact hX j h
    . have:=cT.size;exact ⟨by omega,λe=>by have:=eg.lt j e;omega⟩
   refine ⟨_,ae ec rfl,ah (λr2=>⟨_,_,_,ae ec rfl,?_⟩) (λr2=>?_)⟩
   . have hd:(al.getD i cS).1=true:=by simpa using r2
     refine (HR d7 sw cT rfl (by omega) (uS d6 an (by omega)) h3 h1 aT (by have:=o.cap;omega)).mono ?_;rintro k1 hJ ⟨q',d',tt,rfl,h',e',ed,i_,f50⟩;refine ⟨_,_,_,rfl,_,by omega,i+1,tt,_,wN,r,rfl,by simp [ce],by omega,by rw [pz hd],cT.trans ed,h',by rw [pz hd];exact e',eg.grow ed,fk.grow ed,dd (v:=hJ) f50,fL⟩
   . have hd:(al.getD i cS).1=false:=by simpa using r2
     have dG:∀ {v:World} (_:ak Z v) {n:Nat} {r:sn} {c:Nat},bT v n #[.slice s.p s.n s.c,.bool true,.i (i:Int)]->Row 3 yA bF v r c ss->(∀j,aG r=some j->Z.heap.size<=j)->
      ∃bx,∃p' n' c',(Builtin.append_ #[121,121] 121 #[.slice r (eI cs al i).length c,.slice (some (qw n)) 1 1]).run prog v=.ok (.slice p' n' c') bx/\∃fh,fh<t+1 - i/\FI ap cs al t bk (tl.length+1) g' p' n' c' (IntKind.i64.wrap ((i:Int)+1)) bx fh:=by
      intro v gv n r c hb o5 f5;have zv:=gv.size;refine Row.mA tG wx o5 (Gr (s:=(s,true,(i:Int))) hb) aa.symm rfl (by simp;omega) λbx p' c' g1 g4 e8 jN=>?_;have dT:ak Z bx:=gv.then g4 λj J e=>by have:=f5 j e;omega
      refine ⟨_,by omega,i+1,_,_,wN,by omega,rfl,by simp [ce],by omega,by rw [rh hd];simp [aa],cT.trans dT,g1,by rw [rh hd];exact sw.mA (SW.bJ rfl h1 hE h3),eg.grow dT,fk.grow dT,dd (v:=bx) (λj J=> .inr ?_),fL⟩;rcases e8 with rfl|rfl
      . exact f5 j J
      . have:=aL J;omega
     have gd:=rz Z;refine ⟨ak Z,gd,_,_,_,λv g=>ae (ec.grow g) rfl,?_,?_⟩
     . refine (vQ (d7.grow gd) aa.symm (by omega)).mono ?_;rintro hB k4 ⟨q9,d9,rfl,o9,g9,f9⟩;refine ⟨_,_,_,rfl,gd.trans g9,?_⟩;intro k' li el;rw [aa];exact dG ((gd.trans g9).trans el.mod) el.has (o9.grow el.mod) λj J=>by have:=f9 j J;have:=gd.size;omega
     . intro kv lr gk;have cm:=gd.trans gk.mod;refine (vQ (d7.grow cm) aa.symm (by omega)).mono ?_;rintro hB kq ⟨q9,d9,rfl,o9,g9,f9⟩;refine ⟨_,_,_,rfl,cm.trans g9,?_⟩;rw [aa];exact dG (cm.trans g9) (gk.has.grow g9) o9 λj J=>by have:=f9 j J;have:=cm.size;omega
 . have r:i=t+1:=by rw [decide_eq_false_iff_not] at r;omega
   subst r;intro ar l8 ep;have kT:=ep.num;obtain ⟨gl,gr,eH,h7⟩:=MO.put vh vC (MO.new (P:=prog) (k:=dj) (e:=cC) ep) (by unfold maxLen;omega) (x:=(true,(t:Int))) (Sv (by omega)) true;refine ⟨gl,gr,?_⟩;have h8:ak u gl:=ep.mod.then h7 λj J e=>by omega
   refine ⟨λI v z=>∃ (j:Nat) (S:Bool × Int->Prop) (s:Bool × Int->Bool) (ni:Nat),I=(j:Int) - 1/\j<=t+1/\z=j/\ak u v/\MO prog dj cC v ar ni s/\ni<=1+20050* (t+1 - j)/\(∀x,s x=true↔S x)/\(∀x,S x->zp cs al t x)/\Iz cs al j S=J7 cs al t,
    ⟨_,t+1,λx=>x=(true,(t:Int)),_,1,by omega,y4 _,rfl,h8,eH,by omega,λx=>by by_cases e:x=(true,(t:Int))<;>simp [e],λx hx=> .inr ⟨t,y4 _,ht.2.1.1,hx⟩,rfl⟩,?_⟩
   rintro I v j _ ⟨_,S,s,ni,rfl,J,rfl,gv,mo,i9,hs,gP,gm⟩;refine ah (λr=>?_) (λr=>?_)
   . obtain ⟨O,rfl⟩: ∃O,j=O+1:=⟨j - 1,by rw [decide_eq_true_eq] at r;omega⟩
     have ej:((O+1:Nat):Int) - 1=(O:Int):=by omega
     rw [ej];have next:∀ {v':World} {S':Bool × Int->Prop} {s':Bool × Int->Bool} {X:Nat},ak u v'->MO prog dj cC v' ar X s'->X<=20050+ni->(∀x,s' x=true↔S' x)->S'=Qx cs al O S->∃fA,fA<O+1/\
      ∃ (j:Nat) (S:Bool × Int->Prop) (s:Bool × Int->Bool) (ni:Nat),IntKind.i64.wrap ((O:Int) - 1)=(j:Int) - 1/\j<=t+1/\fA=j/\ak u v'/\MO prog dj cC v' ar ni s/\ni<=1+20050* (t+1 - j)/\(∀x,s x=true↔S x)/\(∀x,S x->zp cs al t x)/\Iz cs al j S=J7 cs al t:=
      λ{v' S' s' X} a b c d e=>⟨O,by omega,O,S',s',X,aA (by omega) (by omega),by omega,rfl,a,b,by omega,d,by rw [e];exact MT (by omega) gP,by rw [e];exact gm⟩
     refine ⟨v,_,MO.cP vh vC mo (x:=(true,(O:Int))) (Sv (by omega)),?_⟩;refine ah (λr2=>?_) (λr2=>?_)
     . have r2: ¬S (true,(O:Int)):=λe=>by rw [(hs _).2 e] at r2;cases r2
       exact next gv mo (by omega) hs (QF r2).symm
     . have hS:S (true,(O:Int)):=(hs _).1 (by simpa using r2);have hd:(al.getD O cS).1=false:=by
        rcases gP _ hS with ⟨a,_,e⟩| ⟨a,_,hd,e⟩
        . cases e
        . have e:=(Xx e).2;have:O=a:=by omega
          rw [this];exact hd
       have hu:=(eA O (by omega)).resolve_left (by rw [hd];decide);have a6:=pD (al:=al) (j:=O) (by omega);have aT:=fV an _ a6;have ir:=cy aT;obtain ⟨kn,oj,d4,ea,_⟩:=th O (by omega);have i6:=td (cs:=cs) (al:=al) (i:=O);have gd:=rz v;refine ⟨ak v,gd,ot.vw.ix Sl.nil (by omega) (by omega) (by omega) λa ha=>⟨_,_,_,λv' g=>dZ (gv.trans g) ha id,?_⟩⟩;rw [tn];refine (xb (oj.grow (gv.trans gd)) d4 (gu.trans (gv.trans gd)) ea (by omega)).mono ?_;rintro kk j_ ⟨ke,k0,ks,rfl,hT,b8⟩;have b8:=gd.trans b8;refine ⟨_,_,_,rfl,b8,dc.ix (gu.trans gv) rfl (by omega) λa sL ef h1 h2 h3=>⟨_,_,_,λv' g=>aK.get (ef v' ((gu.trans gv).trans g)) 1 _ rfl,?_⟩⟩;have hL:∀c∈(eI cs al O).map (·.1),c.length<=4096/\∀x∈c,bU x=true:=λc hI=>by
        obtain ⟨y,hy,rfl⟩:=L0.1 hI;have:=cy (uS d6 an (by omega) y hy);exact ⟨this.2,this.1⟩
       have gb:((eI cs al O).map (·.1)).length=(eI cs al O).length:=UL _;have j2:=Ig (cs:=cs) gf (i:=O) (by omega);have i':=K5 (cs:=cs) (B:=4096) λc hc=> (cy (d6 c hc)).2;have io:cs.length*4096<=40*4096:=Vm _ hx;have it:=gf _ a6;refine (Ll hT gb.symm hL (h3.grow ((gu.trans gv).trans b8)) h1 aT (by omega) (by omega)).mono ?_;rw [gb];rintro j4 h9 (⟨h_,_⟩| ⟨_,q',d',rfl,d5,cc⟩)
       . exact absurd hu h_
       have eK:Bq ((eI cs al O).map (·.1)) (al.getD O cS).2 (eI cs al O).length []=DB cs al O:=rfl;rw [eK] at d5;have cc:=b8.trans cc;have c3:=mo.grow cc;have hY:∀b,aG q'=some b->¬b=ar:=λb hb e=>by subst e;exact MO.Tn c3 d5 hb
       refine ⟨_,_,_,_,rfl,?_⟩;rw [eK];have hK:(DB cs al O).length<=20050:=by
        have:=Dt (yw (cs:=(eI cs al O).map (·.1)) (c:=(al.getD O cS).2) (n:=(eI cs al O).length) (by simp) (i:=(eI cs al O).length) (K:= []) (y4 _) ⟨λj J=>by simp at J,.nil⟩).1 (vx _);rw [eK] at this;omega
       refine ⟨λV v' z=>∃ (x:Nat) (s':Bool × Int->Bool) (X:Nat),V=x/\x<=(DB cs al O).length/\z=(DB cs al O).length - x/\aD (·=ar) h9 v'/\MO prog dj cC v' ar X s'/\X<=ni+x/\∀y,s' y=true↔S y\/∃jj∈(DB cs al O).take x,((eI cs al O).getD jj rA).2=y,
        ⟨_,0,s,ni,rfl,vx _,rfl,aD.refl _,c3,by omega,λy=>by rw [hs];simp⟩,?_⟩
       rintro V v' z _ ⟨x,s',X,rfl,l3,rfl,m',mo',hg,ek⟩;have gg:ak u v':=(gv.trans cc).then m' λj J e=>by omega
       refine ah (λQ=>?_) (λQ=>?_)
       . have Q:x< (DB cs al O).length:=by simpa using Q
         refine (d5.keep m' hY).vw.ix 0 (by omega) (by rw [UL]) (by omega) λa ha=>⟨_,ha,?_⟩
         rw [tn,xh];have gy:(DB cs al O).getD x 0∈DB cs al O:=by simp [List.getD,Q]
         have fP:=GO gy;have hR:(Lit.int .i64 ((eI cs al O).getD ((DB cs al O).getD x 0) rA).2.2).wf=true:=by
          rcases xY gy with ⟨a,ha,e⟩| ⟨a,ha,_,e⟩<;> (rw [e];exact Sv (x:=(a:Int)) (by omega))
         refine ot.vw.ix Sl.nil (by omega) (by omega) (by omega) λa1 hP=>⟨_,_,_,dZ (S:=λ_=>False) (gg.trans (rz v')) hP id,?_⟩
         rw [tn];refine d4.ix (oj.grow (gg.trans (rz v'))) ea fP λa2 s2 fq _ _ _=>⟨_,aK.get fq 1 _ rfl,?_⟩
         refine ot.vw.ix Sl.nil (by omega) (by omega) (by omega) λa3 hQ=>⟨_,_,_,dZ (S:=λ_=>False) (gg.trans (rz v')) hQ id,?_⟩
         rw [tn];refine d4.ix (oj.grow (gg.trans (rz v'))) ea fP λa4 s4 fs _ _ _=>⟨_,aK.get fs 2 _ rfl,?_⟩
         obtain ⟨fa,hr,en,ga⟩:=MO.put vh vC (mo'.grow (rz v')) (by unfold maxLen;omega) (x:=((eI cs al O).getD ((DB cs al O).getD x 0) rA).2) hR true;refine ⟨fa,hr,_,by omega,x+1,_,_,wN,Q,rfl,m'.trans ((aD.mono (rz v') λ_ _ e=>e.elim).trans ga),en,by omega,λy=>?_⟩;rw [c8 Q 0];by_cases e:y=((eI cs al O).getD ((DB cs al O).getD x 0) rA).2
         . rw [if_pos e];exact ⟨λ_=> .inr ⟨_,Vt _ (Bs.2 rfl),e.symm⟩,λ_=>rfl⟩
         . rw [if_neg e,ek];refine or_congr WK ⟨λ⟨jj,h1,h2⟩=>⟨jj,UW _ h1,h2⟩,λ⟨jj,h1,h2⟩=>?_⟩;rcases F'.1 h1 with h1|h1
           . exact ⟨jj,h1,h2⟩
           . rw [Bs] at h1;rw [h1] at h2;exact absurd h2.symm e
       . have Q:x=(DB cs al O).length:=by simp at Q;omega
         subst Q;rw [K'] at ek;exact next gg mo' (by omega) ek (by
          funext y;exact propext ⟨λh=>h.imp id λh=>⟨hS,h⟩,λh=>h.imp id λh=>h.2⟩)
   . have g8:j=0:=by rw [decide_eq_false_iff_not] at r;omega
     subst g8;have hF:∀x,s x=true↔J7 cs al t x:=λx=>by rw [hs,<- gm];rfl
     intro n102 U av;have j1:=av.num;have aw:ak u U:=gv.trans av.mod;have eR:bT U n1 _:=e9.grow ((gu.trans aw));have j3:=av.size;have zv:=gv.size;have zu:=gu.size;have bu:=mo.grow av.mod;have l5:=mo.lt;refine ⟨_,_,_,ae eR rfl,?_⟩;refine ⟨λV y z=>∃ (x:Nat) (P:sn) (C:Nat),V=x/\x<=cs.length/\z=cs.length - x/\aD (·=n102) U y/\bT y n102 #[.slice P ((List.range x).filter λi:Nat=>s (false,(i:Int))).length C,.slice none 0 0]/\dz aq y P C (gG ((List.range x).filter λi:Nat=>s (false,(i:Int))))/\∀j,aG P=some j->U.heap.size<=j,
      ⟨_,0,none,0,rfl,vx _,rfl,aD.refl _,av.has,Ow.nil _ _ _,λj J=>by simp [aG] at J⟩,?_⟩
     rintro V y z _ ⟨x,P,C,rfl,kl,rfl,my,cp,oy,fy⟩;have fb:MO prog dj cC y ar ni s:=bu.keep my (by omega);have zy:=my.size;refine ah (λQ=>?_) (λQ=>?_)
     . have Q:x<cs.length:=by simpa using Q
       refine ⟨y,_,MO.cP vh vC fb (x:=(false,(x:Int))) (Sv (by omega)),ah (λr4=>?_) (λr4=>?_)⟩
       . have eF:(List.range (x+1)).filter (λi:Nat=>s (false,(i:Int)))=(List.range x).filter (λi:Nat=>s (false,(i:Int)))++ [x]:=EJ r4;refine ⟨_,_,_,ae cp rfl,?_⟩;intro n113 i2 ac;have i4:=ac.num;have dq:=Vs (λi:Nat=>s (false,(i:Int))) (List.range x);rw [VP] at dq;refine Ow.lP c9 (oy.grow ac.mod) (x:Int) ac.has rfl (e_ _).symm (λ_=>rfl) (by rw [e_];omega) λfi p' c' gx dh ay fj=>?_;have gw:bT fi n102 _:=(cp.grow ac.mod).keep dh λe=>by have:=fy _ e;omega
         refine cz gw rfl rfl λiy gs c7=>?_;have bf:∀j,aG p'=some j->U.heap.size<=j:=λj J=>by
          have:=ac.mod.size;rcases ay with rfl|rfl
          . exact fy j J
          . have:=aL J;omega
         refine ⟨_,by omega,x+1,p',c',wN,Q,rfl,?_,?_,?_,bf⟩
         . exact ((my.then ac.mod λ_ _ h=>h.elim).then dh λj J e=>by have:=fy j e;omega).trans c7
         . rw [eF,UH,Va,<- e_];exact gs
         . rw [eF];have:=gx.keep c7 λj J e=>by have:=bf j J;omega
           unfold gG at this ⊢;rw [LV];exact this
       . have eF:(List.range (x+1)).filter (λi:Nat=>s (false,(i:Int)))=(List.range x).filter (λi:Nat=>s (false,(i:Int))):=Fh (by rw [r4];decide);exact ⟨_,by omega,x+1,P,C,wN,Q,rfl,my,by rw [eF];exact cp,by rw [eF];exact oy,fy⟩
     . have Q:x=cs.length:=by simp at Q;omega
       subst Q;refine ⟨λV v2 z=>∃ (x:Nat) (P2:sn) (C2:Nat),V=x/\x<=t+1/\z=t+1 - x/\aD (·=n102) U v2/\bT v2 n102 #[.slice P ((List.range cs.length).filter λi:Nat=>s (false,(i:Int))).length C,.slice P2 ((List.range x).filter λi:Nat=>s (true,(i:Int))).length C2]/\
        dz aq v2 P C (gG ((List.range cs.length).filter λi:Nat=>s (false,(i:Int))))/\dz aq v2 P2 C2 (gG ((List.range x).filter λi:Nat=>s (true,(i:Int))))/\∀j,aG P2=some j->U.heap.size<=j/\aG P≠some j,
        ⟨_,0,none,0,rfl,vx _,rfl,my,cp,oy,Ow.nil _ _ _,λj J=>by simp [aG] at J⟩,?_⟩
       clear fb;rintro V v2 z _ ⟨x,P2,C2,rfl,mm,rfl,mv,bv,cg,d8,fv⟩;have hW:MO prog dj cC v2 ar ni s:=bu.keep mv (by omega);have l4:=mv.size;refine ah (λQ=>?_) (λQ=>?_)
       . have Q:x<t+1:=by rw [decide_eq_true_eq] at Q;omega
         refine ⟨v2,_,MO.cP vh vC hW (x:=(true,(x:Int))) (Sv (by omega)),ah (λr4=>?_) (λr4=>?_)⟩
         . have eF:(List.range (x+1)).filter (λi:Nat=>s (true,(i:Int)))=(List.range x).filter (λi:Nat=>s (true,(i:Int)))++ [x]:=EJ r4;refine ⟨_,_,_,ae bv rfl,?_⟩;intro n126 ip Y;have i0:=Y.num;have dq:=Vs (λi:Nat=>s (true,(i:Int))) (List.range x);rw [VP] at dq;refine Ow.lP c9 (d8.grow Y.mod) (x:Int) Y.has rfl (e_ _).symm (λ_=>rfl) (by rw [e_];omega) λeT p' c' fl b6 ay fj=>?_;have eL:bT eT n102 _:=(bv.grow Y.mod).keep b6 λe=>by have:=(fv _ e).1;omega
           have z127:=Y.mod.size;have eN:=cg.lt;refine cz eL rfl rfl λj0 f' bn=>?_;have bf:∀j,aG p'=some j->U.heap.size<=j/\aG P≠some j:=λj J=>by
            rcases ay with rfl|rfl
            . exact fv j J
            . have:=aL J;exact ⟨by omega,λe=>by have:=eN j e;omega⟩
           refine ⟨_,by omega,x+1,p',c',wN,Q,rfl,?_,?_,?_,?_,bf⟩
           . exact ((mv.then Y.mod λ_ _ h=>h.elim).then b6 λj J e=>by have:=(fv j e).1;omega).trans bn
           . rw [eF,UH,Va,<- e_ ((List.range x).filter λi:Nat=>s (true,(i:Int)))];exact f'
           . exact ((cg.grow Y.mod).keep b6 λj J e=> (fv j e).2 J).keep bn λj J e=>by have:=fy j J;omega
           . rw [eF];have:=fl.keep bn λj J e=>by have:=(bf j J).1;omega
             unfold gG at this ⊢;rw [LV];exact this
         . have eF:(List.range (x+1)).filter (λi:Nat=>s (true,(i:Int)))=(List.range x).filter (λi:Nat=>s (true,(i:Int))):=Fh (by rw [r4];decide);exact ⟨_,by omega,x+1,P2,C2,wN,Q,rfl,mv,by rw [eF];exact bv,cg,by rw [eF];exact d8,fv⟩
       . have Q:x=t+1:=by rw [decide_eq_false_iff_not] at Q;omega
         subst Q;refine ⟨_,_,_,_,_,_,bS bv,?_⟩;have hk:ak ap v2:=(gu.trans aw).then mv λj J e=>by omega
         have i3:=h4.has.lt;have i5:=a7.size;have b3:bT v2 n3 _:=(h4.has.grow (a7.trans (gu.trans aw))).keep mv (by omega);refine bD b3 rfl rfl λih fu bg=>⟨_,_,_,_,_,_,bS fu,P,P2,C,C2,0,_,_,rfl,.inr (.inr ⟨⟨b7,an⟩,t,ht,eA,rfl,?_,?_⟩),cg.keep bg λj J e=>by have:=fy j J;omega,d8.keep bg λj J e=>by have:=(fv j J).1;omega,(c0.trans hk).then bg λj J e=>by omega⟩
         . unfold lQ;refine List.filter_congr λi _=>?_;rw [Wm,@decide_eq_true_eq _ (Classical.propDecidable _)];exact hF _
         . unfold iP;refine List.filter_congr λi _=>?_;rw [Wm,@decide_eq_true_eq _ (Classical.propDecidable _)];exact hF _
end
section
variable {W w w' w0 w2 w3 u:World} {p q p1 p2:sn} {n m d i c t n1 n2 d1 d2:Nat} {k:Int} {hs tl:List Sl} {cs:List (List Int)} {l c1 c2:List Int} {ss:List So} {al:List jb}
def RF (n:Nat) (l:List Int):Prop:=∀i,i<l.length->0<=l.getD i 0/\l.getD i 0<n/\(0<i->l.getD (i - 1) 0<l.getD i 0)
theorem Cd {e:Nat} (hl:Vw sT w q l) (hm:m=l.length) (hx:l.length<=100000) (hn:n<=1000000):Calls prog mV.id #[.slice q m e,.i (n:Int)] w λe w'=>∃r:Bool,e=.returned (.bool r)/\(r=true↔RF n l)/\ak w w':=by
 subst hm;refine mV.aj ?_;refine ⟨λI u z=>∃i:Nat,I=i/\i<=l.length/\z=l.length - i/\ak w u/\∀j,j<i->0<=l.getD j 0/\l.getD j 0<n/\(0<j->l.getD (j - 1) 0<l.getD j 0),⟨_,0,rfl,vx _,rfl,aD.refl _,λj hj=>by omega⟩,?_⟩;rintro I u z _ ⟨i,rfl,hi,rfl,O,J⟩;refine ah (λr=>?_) (λr=>?_)
 . have r:i<l.length:=by simpa using r
   refine (hl.grow O).ix 0 (by omega) rfl (by omega) λa ha=>⟨_,ha,?_⟩
   rw [tn];have no: ¬(0<=l.getD i 0/\l.getD i 0<n/\(0<i->l.getD (i - 1) 0<l.getD i 0))->∃r:Bool,Ending.returned (Value.bool false)=.returned (.bool r)/\(r=true↔RF n l)/\ak w u:=λh=>⟨false,rfl,⟨λe=> (by cases e),λe=>absurd (e i r) h⟩,O⟩
   have next:(0<=l.getD i 0/\l.getD i 0<n/\(0<i->l.getD (i - 1) 0<l.getD i 0))->∃k3,k3<l.length - i/\∃V:Nat,IntKind.i64.wrap ((i:Int)+1)=V/\V<=l.length/\k3=l.length - V/\ak w u/\∀j,j<V->0<=l.getD j 0/\l.getD j 0<n/\(0<j->l.getD (j - 1) 0<l.getD j 0):=λh=>
    ⟨_,by omega,i+1,wN,r,rfl,O,λj hj=>by
      by_cases e:j<i
      . exact J j e
      . obtain rfl:j=i:=by omega
        exact h⟩
   refine ah (λU=>no λh=>by rw [decide_eq_true_eq] at U;omega) (λU=>ah (λQ=>no λh=>by rw [decide_eq_true_eq] at Q;omega) (λQ=>ah (λY=>?_) (λY=>?_)))
   . rw [decide_eq_true_eq] at Y;rw [aA (x:=(i:Int) - 1) (by omega) (by omega)];refine (hl.grow O).ix 0 (by omega) rfl (by omega) λa2 Z=>⟨_,Z,?_⟩
     rw [show ((i:Int) - 1).toNat=i - 1 by omega];refine ah (λX=>no λh=>?_) (λX=>next ?_)
     . rw [decide_eq_true_eq] at X;have:=h.2.2 (by omega);omega
     . rw [decide_eq_false_iff_not] at U Q X;exact ⟨by omega,by omega,λ_=>by omega⟩
   . rw [decide_eq_false_iff_not] at U Q Y;exact next ⟨by omega,by omega,λ_=>by omega⟩
 . have r:i=l.length:=by simp at r;omega
   subst r;exact ⟨true,rfl,⟨λ_=>J,λ_=>rfl⟩,O⟩
abbrev xo (cs:List (List Int)) (v:Int):List Int:=cs.getD v.toNat []
abbrev xH (al:List jb) (v:Int):jb:=al.getD v.toNat cS
def lV (cs:List (List Int)) (al:List jb) (c1 c2:List Int) (j:Nat):List (List Int):=c1.map (xo cs)++ (c2.take j).map λv=> (xH al v).2
def ve (cs:List (List Int)) (al:List jb) (c1 c2:List Int):Prop:=(∀j,j<c2.length->uB (lV cs al c1 c2 j) (xH al (c2.getD j 0)).2)/\∃j,j<c2.length/\(xH al (c2.getD j 0)).2= []
def NF (al:List jb) (c2:List Int):Prop:=∀j,j<c2.length->(xH al (c2.getD j 0)).1=false
def Ho (k:Int) (cs:List (List Int)) (al:List jb) (c1 c2:List Int):Prop:=(cQ k cs=true/\fG al=true)/\RF cs.length c1/\RF al.length c2/\NF al c2
def JX (k:Int) (cs:List (List Int)) (al:List jb) (c1 c2:List Int) (E:Int):Prop:=(¬Ho k cs al c1 c2/\E=1)\/(Ho k cs al c1 c2/\¬ve cs al c1 c2/\E=7)\/(Ho k cs al c1 c2/\ve cs al c1 c2/\E=0)
theorem JX.Er {E E':Int} (h:JX k cs al c1 c2 E) (O:JX k cs al c1 c2 E'):E=E':=by
 rcases h with ⟨a,rfl⟩| ⟨a,b,rfl⟩| ⟨a,b,rfl⟩<;>rcases O with ⟨I,rfl⟩| ⟨I,J,rfl⟩| ⟨I,J,rfl⟩<;>first|rfl|exact absurd ‹_› ‹_›|exact absurd I a|exact absurd a I|exact absurd J b|exact absurd b J
theorem zZ (h:RF n l) (hi:i<l.length):(l.getD i 0).toNat<n/\((l.getD i 0).toNat:Int)=l.getD i 0:=by
 have:=h i hi;omega
theorem Eg:gH prog jD.id=true:=by kernel_rfl
theorem Nk {b e:Nat} {X:sn} {m2 e2:Nat} (hb:bT w b #[.slice X m2 e2]) (ha:SV w X al) (U:m2=al.length) (hl:Vw sT w q l) (hm:m=l.length) (hx:l.length<=100000) (hr:RF al.length l):
 Calls prog bM.id #[.slice q m e,.func (.func jD.id) #[] #[.pointer (some ⟨b,0,none⟩)]] w λe w'=>∃r:Bool,e=.returned (.bool r)/\(r=false↔NF al l)/\ak w w':=by
 subst hm U;refine bM.aj ((bO.aj (R:=λe w'=>∃r:Int,e=.returned (.i r)/\(r<0↔NF al l)/\ak w w') ?_).mono ?_)
 . refine ⟨λI u z=>∃i:Nat,I=i/\z=l.length - i/\i<=l.length/\ak w u/\∀j,j<i->(xH al (l.getD j 0)).1=false,⟨_,0,rfl,rfl,by omega,aD.refl w,λj Z=>by omega⟩,?_⟩;rintro I u z _ ⟨i,rfl,rfl,hi,g,J⟩;refine ah (λr=>?_) (λr=>?_)
   . have r:i<l.length:=by simpa using r
     refine (hl.grow g).ix 0 (by omega) rfl (by omega) λa V=>⟨_,V,?_⟩
     rw [tn,Eg];show Calls _ _ _ _ _;rw [wK];obtain ⟨h1,h2⟩:=zZ hr r;refine (jD.aj (R:=λe w'=>e=.returned (.bool (xH al (l.getD i 0)).1)/\w'=u) ?_).mono ?_
     . refine ⟨_,_,_,aV (hb.grow g) rfl,?_⟩;rw [<- h2];refine ha.ix g rfl h1 λa s hc h1 Y h3=>⟨_,aK.get (hc u g) 0 _ rfl,rfl,rfl⟩
     . rintro e9 _ ⟨rfl,rfl⟩;refine ⟨_,rfl,ah (λO=>⟨_,rfl,⟨λh=>by omega,λh=>by rw [h i r] at O;cases O⟩,g⟩) (λO=>⟨_,by omega,i+1,wN,rfl,r,g,λj Z=>?_⟩)⟩;by_cases e:j<i
       . exact J j e
       . obtain rfl:j=i:=by omega
         exact O
   . have r:i=l.length:=by simp at r;omega
     subst r;exact ⟨_,rfl,⟨λ_=>J,λ_=>by decide⟩,g⟩
 . rintro e1 w1 ⟨r,rfl,Q,g⟩;refine ⟨_,rfl,_,rfl,?_,g⟩;rw [decide_eq_false_iff_not,<- Q];omega
theorem vS {b:Nat} {x:Value} (h:bT w b #[x]):w.cell? ⟨b,0,none⟩=some x:=aV h rfl
theorem Kq {e:Nat} (hc:V2 sT w p hs cs) (hn:n=cs.length) (hx:cs.length<=40) (hl:SV w q al) (hm:m=al.length) (fa:m<=20000) (v1:Vw sT w p1 c1) (d4:n1=c1.length) (e8:n1<=60) (v2:Vw sT w p2 c2) (ej:n2=c2.length) (fm:n2<=20000):
 Calls prog nZ.id #[.agg #[.i k,.slice p n d],.slice q m e,.agg #[.slice p1 n1 d1,.slice p2 n2 d2]] w λe w'=>∃E:Int,e=.returned (.i E)/\JX k cs al c1 c2 E/\ak w w':=by
 subst hn hm d4 ej;have no:∀ {u:World},¬Ho k cs al c1 c2->ak w u->∃E:Int,Ending.returned (Value.int .i64 1)=.returned (.i E)/\JX k cs al c1 c2 E/\ak w u:=λh g=>⟨1,rfl,.inl ⟨h,rfl⟩,g⟩
 refine nZ.aj ?_;intro nf w2 h2 nl w4 h4 nc w6 h6;have ef:=h2.num;have G6:=(h2.mod.trans h4.mod).trans h6.mod;have bf:=(h2.has.grow h4.mod).grow h6.mod;have bl:=h4.has.grow h6.mod;have bc:=h6.has;refine ⟨_,_,_,_,bS bf,(fS (hc.grow G6) rfl).mono ?_⟩;rintro e9 w9 ⟨rfl,g9⟩;have G9:=G6.trans g9;refine ⟨_,rfl,?_⟩;cases bv:cQ k cs with
 |false=>exact bP rfl (no (λh=>by have:=h.1.1;rw [bv] at this;cases this) G9)
 |true=>
 refine bA rfl ⟨_,_,_,vS (bl.grow g9),(j8 (hl.grow G9) rfl (by omega)).mono ?_⟩;rintro eN eK ⟨rfl,aa⟩;have aa:=g9.trans aa;have cb:=G6.trans aa;refine ⟨_,rfl,?_⟩;cases an:fG al with
 |false=>exact bP rfl (no (λh=>by have:=h.1.2;rw [an] at this;cases this) cb)
 |true=>
 refine bA rfl ⟨_,_,_,ae (bc.grow aa) rfl,_,_,_,ae (bf.grow aa) rfl,(Cd (v1.grow cb) rfl (by omega) (by omega)).mono ?_⟩;rintro eA e2 ⟨ep,rfl,bb,ac⟩;have ac:=aa.trans ac;have b7:=G6.trans ac;refine ⟨_,rfl,?_⟩;cases ep with
 |false=>exact bP rfl (no (λh=>by have:=bb.2 h.2.1;cases this) b7)
 |true=>
 have bk:=bb.1 rfl;refine bA rfl ⟨_,_,_,ae (bc.grow ac) rfl,_,_,_,vS (bl.grow ac),(Cd (v2.grow b7) rfl (by omega) (by omega)).mono ?_⟩;rintro ey fs ⟨ea,rfl,bg,V⟩;have V:=ac.trans V;have bn:=G6.trans V;refine ⟨_,rfl,?_⟩;cases ea with
 |false=>exact bP rfl (no (λh=>by have:=bg.2 h.2.2.1;cases this) bn)
 |true=>
 have aT:=bg.1 rfl;refine bA rfl ⟨_,_,_,ae (bc.grow V) rfl,(Nk (bl.grow V) (hl.grow bn) rfl (v2.grow bn) rfl (by omega) aT).mono ?_⟩;rintro e5 Y ⟨d5,rfl,a7,X⟩;have X:=V.trans X;have U:=G6.trans X;refine ⟨_,rfl,?_⟩;cases d5 with
 |true=>exact bP rfl (no (λh=>by have:=a7.2 h.2.2.2;cases this) U)
 |false=>
 have eb:=a7.1 rfl;have aw:Ho k cs al c1 c2:=⟨⟨bv,an⟩,bk,aT,eb⟩
 have a':=bf.grow X;have Q:=bl.grow X;have bi:=bc.grow X;have e4:=U.size;refine bA rfl ⟨_,_,_,ae bi rfl,?_⟩;refine ⟨λP N C I u z=>∃ (i:Nat) (ks:List Sl),I=i/\i<=c1.length/\z=c1.length - i/\i=N/\ak Y u/\Ow Sl.v aE u P C ks/\VR sT w ks ((c1.take i).map (xo cs))/\∀j,aG P=some j->Y.heap.size<=j,
  ⟨_,0,[],rfl,vx _,rfl,rfl,aD.refl _,Ow.nil _ _ _,VR.nil,λj O=>by simp [aG] at O⟩,?_⟩
 rintro P N C I u z _ ⟨i,ks,rfl,hi,rfl,rfl,gu,ok,vr,fo⟩;have Gu:=U.trans gu;have Z:=vr.n;rw [UL,GD,U7 hi] at Z;refine ah (λr=>?_) (λr=>?_)
 . have r:i<c1.length:=by simpa using r
   obtain ⟨q1,q2⟩:=zZ bk r;refine (v1.grow Gu).ix 0 (by omega) rfl (by omega) λa ha=>⟨_,ha,_,_,_,ae (a'.grow gu) rfl,?_⟩
   rw [tn,<- q2];refine (hc.grow Gu).ix (by omega) rfl (by omega) λad sl k1 k0 k2 k3 k4=>⟨_,_,_,k1,?_⟩
   rw [tn] at k0 k2;obtain ⟨_,_,r3⟩:=hc.r _ q1;rw [<- k0] at r3;intro fd fk ap;have fi:=ap.num;have zu:=gu.size;have fb:=ap.mod.size;refine Ow.tD jK (ok.grow ap.mod) (te (sl:=sl) ap.has) Z.symm rfl (λ_=>rfl) (by simp;omega) λfu p' c' d6 d7 b3 ec=>?_;refine ⟨_,by omega,i+1,_,wN,r,rfl,by simp [Z],(gu.trans ap.mod).then d7 λj O e=>by have:=fo j e;omega,d6,?_,λj O=>?_⟩
   . rw [c8 r 0,LV];exact vr.mA (VR.bJ (s:=sl) r3 k2 k3)
   . rcases b3 with rfl|rfl
     . exact fo j O
     . have:=aL O;omega
 have r:i=c1.length:=by simp at r;omega
 subst r;rw [K'] at vr;refine ⟨_,_,_,_,bS (a'.grow gu),_,_,_,vS (Q.grow gu),(xD (p:=p) (n:=cs.length) (d:=d) (hl.grow Gu) rfl (by omega) (fV an)).mono ?_⟩;rintro fv eL ⟨rfl,cg⟩;have a_:=gu.trans cg;refine ⟨_,rfl,_,_,_,ae (bi.grow a_) rfl,?_⟩;refine ⟨λP N C ends I u z=>∃ (i:Nat) (ks:List Sl),I=i/\i<=c2.length/\z=c2.length - i/\N=(lV cs al c1 c2 i).length/\ak Y u/\Ow Sl.v aE u P C ks/\VR sT w ks (lV cs al c1 c2 i)/\(∀j,aG P=some j->Y.heap.size<=j)/\
  (∀j,j<i->uB (lV cs al c1 c2 j) (xH al (c2.getD j 0)).2)/\(ends=true↔∃j,j<i/\(xH al (c2.getD j 0)).2= []),
  ⟨_,0,ks,rfl,vx _,rfl,by simp [lV],a_,ok.grow cg,by simpa [lV] using vr,fo,λj O=>by omega,⟨λe=> (by cases e),λ⟨j,O,_⟩=>by omega⟩⟩,?_⟩
 clear vr ok fo Z Gu hi;rintro P N C ends I v z _ ⟨i,ks,rfl,hi,rfl,rfl,gv,ok,vr,fo,a6,J⟩;have Gv:=U.trans gv;have Z:=vr.n;have e6:(lV cs al c1 c2 i).length=c1.length+i:=by unfold lV;rw [UH,UL,UL,GD];omega
 refine ah (λr=>?_) (λr=>?_)
 . have r:i<c2.length:=by simpa using r
   obtain ⟨q1,q2⟩:=zZ aT r;have ce:=pD q1;have b8:=fV an _ ce;refine (v2.grow Gv).ix 0 (by omega) rfl (by omega) λa ha=>⟨_,ha,bA (by simp;omega) ⟨_,_,_,vS (Q.grow gv),?_⟩⟩
   rw [tn,<- q2];refine hl.ix Gv rfl q1 λa1 s1 cm du d9 pO=>⟨_,_,_,aK.get (cm v Gv) 1 _ rfl,?_⟩
   refine (xw (k:=PZ k al) ((vr.grow Gv).v2 ok.vw) rfl (λ_ _=>by omega) (pO.grow Gv) du d9).mono ?_;rintro fq dk ⟨fj,rfl,a8,ag⟩;have co:cQ (PZ k al) (lV cs al c1 c2 i)=true:=Ii bv an (by omega) (λc b_=>by
    unfold lV at b_;rcases F'.1 b_ with h|h
    . obtain ⟨y,hy,rfl⟩:=L0.1 h;obtain ⟨j,O,rfl⟩:=I'.1 hy;have:=(zZ bk O).1;simp only [y6,Mb O,US] at this;exact .inl (iV this)
    . obtain ⟨y,hy,rfl⟩:=L0.1 h;obtain ⟨j,O,rfl⟩:=I'.1 (UN hy);have:=(zZ aT O).1;simp only [y6,Mb O,US] at this;exact .inr (U1 (pD this)))
   refine ⟨_,rfl,ah (λr3=>?_) (λr3=>?_)⟩
   . refine ⟨7,rfl,.inr (.inl ⟨aw,λh=>?_,rfl⟩),Gv.trans ag⟩;rw [a8.2 ⟨co,b8,h.1 i r⟩] at r3;cases r3
   . have hu:=(a8.1 (by simpa using r3)).2.2;have ar:=gv.trans ag;refine ⟨_,_,_,vS (Q.grow ar),hl.ix (Gv.trans ag) rfl q1 λa2 s2 cT dh dT d'=>⟨_,_,_,aK.get (cT dk (Gv.trans ag)) 1 _ rfl,?_⟩⟩;intro ez e3 ax;have eF:=ax.num;have e1:=ar.size;have eR:=ax.mod.size;refine Ow.tD jK (ok.grow (ag.trans ax.mod)) (te (sl:=s2) ax.has) Z.symm rfl (λ_=>rfl) (by simp;omega) λb' p' c' cc eg b3 ec=>?_;have ay:ak Y b':=(ar.trans ax.mod).then eg λj O e=>by have:=fo j e;omega
     have eH:lV cs al c1 c2 (i+1)=lV cs al c1 c2 i++ [(xH al (c2.getD i 0)).2]:=by
      unfold lV;rw [c8 r 0,LV,U6];rfl
     have b4:VR sT w (ks++ [s2]) (lV cs al c1 c2 (i+1)):=by rw [eH];exact vr.mA (VR.bJ (s:=s2) d' dh dT)
     have cp:∀j,aG p'=some j->Y.heap.size<=j:=λj O=>by
      rcases b3 with rfl|rfl
      . exact fo j O
      . have:=aL O;omega
     have av:∀j,j<i+1->uB (lV cs al c1 c2 j) (xH al (c2.getD j 0)).2:=λj O=>by
      by_cases e:j<i
      . exact a6 j e
      . obtain rfl:j=i:=by omega
        exact hu
     have hN:(ks++ [s2]).length=(lV cs al c1 c2 (i+1)).length:=b4.n;refine ah (λr4=>?_) (λr4=>?_)
     . subst r4;exact ⟨_,by omega,i+1,_,wN,r,rfl,hN,ay,cc,b4,cp,av,⟨λ_=> (J.1 rfl).imp λj h=>⟨by omega,h.2⟩,λ_=>rfl⟩⟩
     . refine ⟨_,_,_,vS (Q.grow ay),hl.ix (U.trans ay) rfl q1 λa3 s3 b9 en fl e'=>⟨_,_,_,aK.get (b9 b' (U.trans ay)) 1 _ rfl,?_⟩⟩;refine ⟨_,by omega,i+1,_,wN,r,rfl,hN,ay,cc,b4,cp,av,?_⟩;rw [en];constructor
       . intro h;exact ⟨i,by omega,UF (by have h:(((xH al (c2.getD i 0)).2.length:Nat):Int)=0:=(by simpa using h);omega)⟩
       . rintro ⟨j,O,h⟩;by_cases e:j<i
         . rw [J.2 ⟨j,e,h⟩] at r4;cases r4
         . obtain rfl:j=i:=by omega
           rw [h];rfl
 . have r:i=c2.length:=by simp at r;omega
   subst r;refine ah (λr=>⟨7,rfl,.inr (.inl ⟨aw,λh=>?_,rfl⟩),Gv⟩) (λr=>⟨0,rfl,.inr (.inr ⟨aw,⟨a6,J.1 (by simpa using r)⟩,rfl⟩),Gv⟩);rw [J.2 h.2] at r;cases r
end
section
variable {W w w' w0 w2 w3 u:World} {p q p1 p2:sn} {n m d i c t n1 n2 d1 d2:Nat} {k:Int} {hs tl:List Sl} {cs:List (List Int)} {l c1 c2:List Int} {ss:List So} {al:List jb}
def Tf (x:Bool × Sl):List Value:= [.bool x.1,.slice x.2.p x.2.n x.2.c]
theorem KL:GV 2 Tf:=⟨λ_=>rfl,by omega,λx v hv=>by
 simp only [Tf,UI,WO,or_false] at hv;rcases hv with rfl|rfl<;>rfl⟩
theorem Pc:pR prog rU kD 2 32=true:=by kernel_rfl
structure AY (w:World) (hh:List (Bool × Sl)) (al:List jb):Prop where
 b:hh.map (·.1)=al.map (·.1)
 v:VR sT w (hh.map (·.2)) (al.map (·.2))
theorem AY.nil:AY w [] []:=⟨rfl,VR.nil⟩
theorem AY.len {I:List (Bool × Sl)} (h:AY w I al):I.length=al.length:=by have:=congrArg List.length h.b;simpa using this
theorem AY.mA {J I:List (Bool × Sl)} {bl:List jb} (h:AY w J al) (g:AY w I bl):AY w (J++I) (al++bl):=⟨by rw [LV,LV,h.b,g.b],by rw [LV,LV];exact h.v.mA g.v⟩
theorem AY.bJ {s:Sl} {x:jb} (h:Vw sT w s.p x.2) (hn:s.n=x.2.length) (hm:s.n<=maxLen):AY w [(x.1,s)] [x]:=⟨rfl,VR.bJ h hn hm⟩
theorem AY.keep {S:Nat->Prop} {I:List (Bool × Sl)} (h:AY w I al) (m:aD S w w') (J:∀k,rB (I.map (·.2)) k->¬S k):AY w' I al:=⟨h.b,h.v.keep m J⟩
theorem AY.grow {I:List (Bool × Sl)} (h:AY w I al) (m:ak w w'):AY w' I al:=h.keep m λ_ _=>id
theorem AY.sv {I:List (Bool × Sl)} (h:AY w I al) (o:Vr 2 Tf w p I):SV w p al:=by
 intro i hi;have hn:=h.len;obtain ⟨a,rfl,V⟩:=o i (by omega);obtain ⟨h1,J,O⟩:=h.v.r i (by simpa using hi);rw [l6 _ _ _ _ (false,Sl.nil) (by omega),l6 _ _ _ _ cS hi] at h1 O;rw [l6 _ _ _ _ (false,Sl.nil) (by omega)] at J;have Q:I.getD i (false,Sl.nil)=I[i]:=by simp [List.getD,show i<I.length by omega]
 have U:(I[i]'(by omega)).1=(al.getD i cS).1:=by
  have:=congrArg (λl:List Bool=>l.getD i false) h.b;rw [l6 _ _ _ _ (false,Sl.nil) (by omega),l6 _ _ _ _ cS hi,Q] at this;exact this
 rw [Q] at h1 J O;refine ⟨a,I[i].2,rfl,?_,h1,J,O⟩;rw [<- U];exact V
theorem Px {b:Nat} {x:Bool × Sl} (h:bT u b #[.bool x.1,.slice x.2.p x.2.n x.2.c]):Vr 2 Tf u (some ⟨b,0,none⟩) [x]:=by
 intro j I;have:j=0:=by simpa using I
 subst this;exact ⟨_,rfl,bK h rfl,bK h rfl,trivial⟩
def vO (al:List jb) (c2:List Int):List jb:=c2.map λv=> (false,(xH al v).2)
theorem DZ {i:Nat} (h:i<c2.length):vO al (c2.take (i+1))=vO al (c2.take i)++ [(false,(xH al (c2.getD i 0)).2)]:=by unfold vO;rw [c8 h 0,LV];rfl
theorem OO {e:Nat} (hc:V2 sT w p hs cs) (hn:n=cs.length) (hx:cs.length<=40) (hl:SV w q al) (hm:m=al.length) (ea:m<=20000) (v1:Vw sT w p1 c1) (d6:n1=c1.length) (ed:n1<=60) (v2:Vw sT w p2 c2) (eA:n2=c2.length) (eH:n2<=20000):
 Calls prog qB.id #[.agg #[.i k,.slice p n d],.slice q m e,.agg #[.slice p1 n1 d1,.slice p2 n2 d2]] w λe w'=>∃ (g0:Int) (P:sn) (C:Nat) (P2:sn) (C2:Nat) (E:Int) (ks:List Sl) (rows:List (List Int)) (bl:List jb),
  e=.returned (.tuple #[.agg #[.i g0,.slice P rows.length C],.slice P2 bl.length C2,.i E])/\JX k cs al c1 c2 E/\(∀ (S:Nat->Prop) (v:World),aD S w' v->(∀j,S j->j<w.heap.size)->V2 sT v P ks rows/\SV v P2 bl)/\ak w w'/\(E≠0->g0=0/\rows= []/\bl= [])/\(E=0->g0=k/\rows=c1.map (xo cs)/\bl=vO al c2):=by
 subst hn hm d6 eA;refine qB.aj ?_;intro nf w2 h2 nc w4 h4 ng w6 h6;have ef:=h2.num;have ec:=h4.num;have eg:=h6.num;have z2:=h2.mod.size;have z4:=h4.mod.size;have G6:=(h2.mod.trans h4.mod).trans h6.mod;have bf:=(h2.has.grow h4.mod).grow h6.mod;have bc:=h4.has.grow h6.mod;have bg:=h6.has;refine ⟨_,_,_,_,bS bf,_,_,_,_,_,_,bS bc,(Kq (hc.grow G6) rfl hx (hl.grow G6) rfl ea (v1.grow G6) rfl ed (v2.grow G6) rfl eH).mono ?_⟩;rintro gl a_ ⟨E,rfl,hE,V⟩;have an:=G6.trans V;refine ⟨_,rfl,ah (λr=>?_) (λr=>?_)⟩
 . have r:E≠0:=by simpa using r
   refine bD (bg.grow V) rfl rfl λga el eR=>⟨_,_,_,_,bS el,0,none,0,none,0,E,[],[],[],rfl,hE,λS v _ _=>⟨V2.nil,λi hi=>by simp at hi⟩,an.then eR λj J e=>by omega,λ_=>⟨rfl,rfl,rfl⟩,λh=>absurd h r⟩
 have r:E=0:=by simpa using r
 subst r;obtain ⟨b7,fP⟩:Ho k cs al c1 c2/\ve cs al c1 c2:=by
  rcases hE with ⟨_,h⟩| ⟨_,_,h⟩| ⟨a,b,_⟩
  . cases h
  . cases h
  . exact ⟨a,b⟩
 obtain ⟨⟨ez,dh⟩,dc,eu,gm⟩:=b7;have hL:=sj ez;have O:=bf.grow V;have ay:=bc.grow V;have U:=bg.grow V;have gk:=an.size;have zg:=U.lt;refine ⟨_,ae O rfl,?_⟩;intro a6 gc ux;have fL:=ux.num;refine bD ux.has rfl rfl λav co d9=>?_;have Q:ak a_ av:=ux.mod.then d9 λj J e=>by omega
 have c3:=an.trans Q;have fq:=Q.size;have fb:=co.lt;have e8:=O.grow Q;have b5:=ay.grow Q;have e2:=U.grow Q;refine ⟨_,_,_,ae b5 rfl,?_⟩;refine ⟨λI u z=>∃ (i:Nat) (P:sn) (C:Nat) (ks:List Sl),I=i/\i<=c1.length/\z=c1.length - i/\aD (·=a6) av u/\bT u a6 #[.i k,.slice P ((c1.take i).map (xo cs)).length C]/\OV sT aE u P C ks ((c1.take i).map (xo cs))/\∀j,OV.cq P ks j->av.heap.size<=j,
  ⟨_,0,none,0,[],rfl,vx _,rfl,aD.refl _,co,OV.nil,λj J=>by rcases J with J| ⟨s,hs,_⟩;simp [aG] at J;simp at hs⟩,?_⟩
 rintro I u z _ ⟨i,P,C,ks,rfl,hi,rfl,mu,bu,ov,fo⟩;have gu:ak a_ u:=Q.then mu λj J e=>by omega
 have Gu:=an.trans gu;have ew:=ov.v.n;have eF:((c1.take i).map (xo cs)).length=i:=by rw [UL,GD];omega
 have zu:=mu.size;refine ah (λr=>?_) (λr=>?_)
 . have r:i<c1.length:=by simpa using r
   obtain ⟨q1,q2⟩:=zZ dc r;have gd:=rz u;refine (v1.grow Gu).ix 0 (by omega) rfl (by omega) λa ha=>⟨_,ha,ak u,gd,_,_,_,λv g=>ae (bu.grow g) rfl,_,_,_,λv g=>ae ((O.grow gu).grow g) rfl,?_⟩
   rw [tn,<- q2];refine (hc.grow Gu).ix (by omega) rfl (by omega) λad sl k1 k0 k2 k3 k4=>⟨_,_,_,λv g=>dZ (S:=λ_=>False) g k1 id,?_⟩
   rw [tn] at k0 k2 k4;have cg:=hL _ (iV q1);refine (iQ (k4.grow gd) k2 (by have:=cg.1;omega)).mono ?_;rintro gf fa ⟨az,aT,rfl,du,eT,f33⟩;have Y:=gd.trans eT;refine ⟨_,_,_,rfl,Y,?_⟩;intro gg gp Z;have fv:=Z.num;have ap:=Y.trans Z.mod;have fu:=Y.size;have zd:u.drew.heap.size=u.heap.size:=rfl;have fh:=Z.mod.size;have eb:=du.grow Z.mod;refine ⟨ap,OV.mA jK (ov.grow ap) (ns:= [⟨az,(xo cs (c1.getD i 0)).length,aT⟩]) (nrows:= [xo cs (c1.getD i 0)]) (te (sl:=⟨az,(xo cs (c1.getD i 0)).length,aT⟩) Z.has) (VR.bJ eb.vw rfl (UY cg.1 (by unfold maxLen;omega))) ew.symm rfl (λj J e=>?_) (by simp;omega) λdq p' c' bb cc ax es=>?_⟩
   . obtain ⟨s,hs,_,hb⟩:=J;rw [Bs] at hs;subst hs;have:=f33 j hb;have:=ov.h.lt j e;omega
   have en:bT dq a6 _:=(bu.grow ap).keep cc λe=>by have:=fo _ (.inl e);omega
   refine cz en rfl rfl λgr ey bv=>?_;have eL:(c1.take (i+1)).map (xo cs)=(c1.take i).map (xo cs)++ [xo cs (c1.getD i 0)]:=by rw [c8 r 0,LV];rfl
   have cb:∀j,OV.cq p' (ks++ [⟨az,(xo cs (c1.getD i 0)).length,aT⟩]) j->av.heap.size<=j:=λj J=>by
    rcases J with J|J
    . rcases ax with rfl|rfl
      . exact fo j (.inl J)
      . have:=aL J;omega
    . rcases sY.1 J with J| ⟨s,hs,_,hb⟩
      . exact fo j (.inr J)
      . rw [Bs] at hs;subst hs;have:=f33 j hb;omega
   refine ⟨_,by omega,i+1,p',c',_,wN,r,rfl,((mu.then ap λ_ _ h=>h.elim).then cc λj J e=>by have:=fo j (.inl e);omega).trans bv,?_,?_,cb⟩
   . have:=bb.v.n;rw [eL,<- this];exact ey
   . rw [eL];exact bb.keep bv λj J e=>by have:=cb j J;omega
 have r:i=c1.length:=by simp at r;omega
 subst r;rw [K'] at bu ov eF;have f1:=O.grow gu;have ei:=ay.grow gu;have d8:=U.grow gu;refine ⟨_,_,_,ae ei rfl,?_⟩;refine ⟨λP2 N2 C2 I v z=>∃ (i:Nat) (hh:List (Bool × Sl)),I=i/\i<=c2.length/\z=c2.length - i/\N2=(vO al (c2.take i)).length/\ak u v/\Row 2 Tf kD v P2 C2 hh/\AY v hh (vO al (c2.take i))/\(∀j,aG P2=some j->u.heap.size<=j)/\∀j,rB (hh.map (·.2)) j->u.heap.size<=j/\aG P2≠some j,
  ⟨_,0,[],rfl,vx _,rfl,rfl,aD.refl _,Row.nil _ _ _ _,AY.nil,λj J=>by simp [aG] at J,λj ⟨s,hs,_⟩=>by simp at hs⟩,?_⟩
 rintro P2 N2 C2 I v z _ ⟨i,hh,rfl,fm,rfl,rfl,gv,o2,sv,fp,fr⟩;have Gv:=Gu.trans gv;have er:(vO al (c2.take i)).length=i:=by unfold vO;rw [UL,GD];omega
 have d':=sv.len;have zv:=gv.size;refine ah (λr=>?_) (λr=>?_)
 . have r:i<c2.length:=by simpa using r
   obtain ⟨q1,q2⟩:=zZ eu r;have bk:=pD q1;have bx:=cy (fV dh _ bk);refine (v2.grow Gv).ix 0 (by omega) rfl (by omega) λa ha=>⟨_,ha,?_⟩
   rw [tn,<- q2];refine hl.ix Gv rfl q1 λa1 s1 b3 d4 f' pO=>⟨_,_,_,aK.get (b3 v Gv) 1 _ rfl,?_⟩
   refine (iQ (pO.grow Gv) d4 (by omega)).mono ?_;rintro fj fy ⟨ag,ar,rfl,ep,b_,f51⟩;refine ⟨_,_,_,rfl,?_⟩;intro fd c7 X;have fk:=X.num;have aw:=b_.trans X.mod;have gb:=b_.size;have fs:=X.mod.size;have bi:=ep.grow X.mod;have d7:=o2.lt;refine Row.mA KL Pc (o2.grow aw) (Px (x:=(false,⟨ag,(xH al (c2.getD i 0)).2.length,ar⟩)) X.has) (by omega) rfl (by simp;omega) λf0 p' c' d5 b' ax es=>?_;have b4:∀j,rB ((hh++ [((false,⟨ag,(xH al (c2.getD i 0)).2.length,ar⟩):Bool × Sl)]).map (·.2)) j->u.heap.size<=j/\aG P2≠some j/\j<c7.heap.size:=λj J=>by
    rw [LV] at J;rcases sY.1 J with J| ⟨s,hs,_,hb⟩
    . have:=(sv.grow aw).v.lt j J;exact ⟨(fr j J).1,(fr j J).2,this⟩
    . have hs:s=⟨ag,(xH al (c2.getD i 0)).2.length,ar⟩:=by simpa using hs
      subst hs;have:=f51 j hb;have:=bi.lt j hb;exact ⟨by omega,λe=>by have:=d7 j e;omega,by omega⟩
   refine ⟨_,by omega,i+1,_,wN,r,rfl,?_,(gv.trans aw).then b' λj J e=>by have:=fp j e;omega,d5,?_,λj J=>?_,λj J=>?_⟩
   . rw [DZ r,UH,UH,d'];rfl
   . rw [DZ r];exact ((sv.grow aw).mA (AY.bJ (x:=(false,(xH al (c2.getD i 0)).2)) (s:=⟨ag,(xH al (c2.getD i 0)).2.length,ar⟩) bi.vw rfl (UY bx.2 (by unfold maxLen;omega)))).keep b' λj J e=> (b4 j J).2.1 e
   . rcases ax with rfl|rfl
     . exact fp j J
     . have:=aL J;omega
   . obtain ⟨a1,a2,a3⟩:=b4 j J;refine ⟨a1,λe=>?_⟩;rcases ax with rfl|rfl
     . exact a2 e
     . have:=aL e;omega
 . have r:i=c2.length:=by simp at r;omega
   subst r;rw [K'] at sv er;refine ⟨_,_,_,_,bS (bu.grow gv),?_⟩;refine bD (d8.grow gv) rfl rfl λfl dT aa=>⟨_,_,_,_,bS dT,k,P,C,P2,C2,0,ks,c1.map (xo cs),vO al c2,by rw [K'],hE,λS x mS hS=>⟨(((ov.grow gv).keep aa λj J e=>by have:=fo j J;omega).keep mS λj J e=>by have:=fo j J;have:=hS j e;have:=c3.size;omega).v2,((sv.keep aa λj J e=>by have:=(fr j J).1;omega).keep mS λj J e=>by have:=(fr j J).1;have:=hS j e;have:=Gu.size;omega).sv (((o2.keep aa λj J e=>by have:=fp j J;omega).keep mS λj J e=>by have:=fp j J;have:=hS j e;have:=Gu.size;omega).vr KL)⟩,Gv.then aa λj J e=>by omega,λh=>absurd rfl h,λ_=>⟨rfl,rfl,rfl⟩⟩
end
section
variable {W w w' w0 w2 w3 u:World} {p q:sn} {n m d i c:Nat} {k:Int} {hs tl:List Sl} {cs:List (List Int)} {l:List Int} {ss:List So} {al:List jb}
theorem Dp {e:Nat} (hc:V2 sT w p hs cs) (hn:n=cs.length) (hx:cs.length<=40) (hl:SV w q al) (hm:m=al.length) (cT:m<=60) (ap:∀c∈cs,jf c=true) (X:fG al=true):
 Calls prog gq.id #[.agg #[.i k,.slice p n d],.slice q m e] w λe w'=>∃r:Bool,e=.returned (.bool r)/\(r=true↔rG cs al)/\ak w w':=by
 subst hn hm;refine gq.aj ?_;intro n1 w2 h2;refine (FG (hl.grow h2.mod) rfl (by omega)).mono ?_;rintro e3 w3 ⟨g3,hE⟩;have G3:=h2.mod.trans g3;obtain ⟨T,E,hT,c0,U,Z,rfl⟩: ∃ (T:Nat) (E:Int),T<=al.length/\E=(T:Int) - 1/\(∀t,lX al t->T=t+1)/\(0<T->lX al (T - 1))/\e3=.returned (.i E):=by
  rcases hE with ⟨bb,rfl⟩| ⟨t,ht,rfl⟩
  . exact ⟨0,-1,vx _,rfl,λt ht=>absurd ht.2.1 (bb t ht.1),λh=>by omega,rfl⟩
  . exact ⟨t+1,t,ht.1,by omega,λt' a7=>by rw [ht.Er a7],λ_=>ht,rfl⟩
 refine ⟨_,rfl,?_⟩;refine ⟨λi w9 k6=>∃O:Nat,i=O/\O<=T/\k6=T - O/\ak w3 w9/\∀j,j<O->(al.getD j cS).1=true\/uB ((eI cs al j).map (·.1)) (al.getD j cS).2,⟨_,0,rfl,vx _,rfl,aD.refl _,λj hj=>by omega⟩,?_⟩;rintro I u z _ ⟨i,rfl,hi,rfl,gu,ax⟩;have Q:=G3.trans gu;refine ah (λr=>?_) (λr=>?_)
 . have r:i<T:=by rw [decide_eq_true_eq] at r;omega
   have ar:=pD (al:=al) (j:=i) (by omega);have Y:=fV X _ ar;have aw:=cy Y;have gd:=rz u;have next:∀ {v:World},ak u v->((al.getD i cS).1=true\/uB ((eI cs al i).map (·.1)) (al.getD i cS).2)->∃k7,k7<T - i/\∃O:Nat,IntKind.i64.wrap ((i:Int)+1)=O/\O<=T/\k7=T - O/\ak w3 v/\∀j,j<O->(al.getD j cS).1=true\/uB ((eI cs al j).map (·.1)) (al.getD j cS).2:=
    λ{v} g h=>⟨_,by omega,i+1,wN,r,rfl,gu.trans g,λj hj=>by
     by_cases e:j<i
     . exact ax j e
     . obtain rfl:j=i:=by omega
       exact h⟩
   refine ⟨ak u,gd,hl.ix Q rfl (by omega) λa s az h1 b' h3=>⟨_,λv g=>aK.get (az v (Q.trans g)) 0 _ rfl,ah (λr1=>?_) (λr1=>next gd (.inl (by simpa using r1)))⟩⟩;have hd:(al.getD i cS).1=false:=by simpa using r1
   have b3:=(h2.has.grow g3).grow gu;refine ⟨_,_,_,_,λv g=>bS (b3.grow g),(D6 (hc.grow (Q.trans gd)) rfl (by omega) (hl.grow (Q.trans gd)) rfl (by omega) ap X (by omega)).mono ?_⟩;rintro cp co ⟨q',d',ss,rfl,a',ac,ag,_⟩;have V:=gd.trans ag;have b6:=td (cs:=cs) (al:=al) (i:=i);refine ⟨_,_,_,rfl,V,(Am a' ac ag rfl (by omega)).mono ?_⟩;rintro cc bY ⟨bx,cb,ks,rfl,aT,_,J⟩;have J:=V.trans J;refine ⟨_,_,_,rfl,J,hl.ix Q rfl (by omega) λa2 s2 av a6 b7 bc=>⟨_,_,_,λv g=>aK.get (av v (Q.trans g)) 1 _ rfl,?_⟩⟩;refine (EK aT (by rw [UL]) (by omega) (λc a8=>by
    obtain ⟨y,hy,rfl⟩:=L0.1 a8;exact (cy (uS ap X (by omega) y hy)).1) (bc.grow (Q.trans J)) a6 (by omega) aw.1).mono ?_
   rintro b9 bv ⟨rr,rfl,hr,an⟩;refine ⟨_,rfl,ah (λr2=>⟨false,rfl,⟨λe=> (by cases e),λ⟨t,ht,hp⟩=>?_⟩,(Q.trans J).trans an⟩) (λr2=>next (J.trans an) (.inr (hr.1 (by simpa using r2))))⟩;have:=U t ht;rw [hr.2 ((hp i (by omega)).resolve_left (by rw [hd];decide))] at r2;cases r2
 . have r:i=T:=by rw [decide_eq_false_iff_not] at r;omega
   subst r;refine ⟨_,rfl,?_,Q⟩;rw [decide_eq_true_eq];constructor
   . intro h;have:=Z (by omega);exact ⟨_,this,λj hj=>ax j (by omega)⟩
   . rintro ⟨t,ht,_⟩;have:=U t ht;omega
end
end Go.Proofs.YtbdghpjnifjlmaaGreat.W
